/- HistRank: the law, walked. -/
import Derived.Test.YtmhljblfbnjopaaHistCount
import Derived.Deep.RegionHeld3
namespace Go.Proofs.Ytmhljblfbnjopaa.HHist
set_option linter.unusedVariables false
open Go.RowKit Go.Proofs.Ytmhljblfbnjopaa.HMem Go.Proofs.Ytmhljblfbnjopaa.HBucket Go.Proofs.Ytmhljblfbnjopaa.HApp
open Go.Proofs.Ytmhljblfbnjopaa.Print (I64)

theorem ins_sorted (ss : List Int) (x : Int) (t : Nat) (ht : t ≤ ss.length) (hs : ss.Pairwise (· ≤ ·)) (hb : ∀ i u, i < t → ss[i]? = some u → u < x) (he : ∀ u, ss[t]? = some u → ¬ u < x) : (ss.take t ++ [x] ++ ss.drop t).Pairwise (· ≤ ·) := by
  have hlow : ∀ u ∈ ss.take t, u ≤ x := by
    intro u hu
    obtain ⟨i, hi, rfl⟩ := List.getElem_of_mem hu
    have hi' : i < t := by rw [List.length_take] at hi; omega
    have := hb i ((ss.take t)[i]) hi' (by rw [List.getElem_take]; exact List.getElem?_eq_getElem _)
    omega
  have hhigh : ∀ u ∈ ss.drop t, x ≤ u := by
    intro u hu
    obtain ⟨i, hi, rfl⟩ := List.getElem_of_mem hu
    rw [List.length_drop] at hi
    have h0 := he _ (List.getElem?_eq_getElem (show t < ss.length by omega))
    rw [List.getElem_drop]
    by_cases e : i = 0
    · subst e
      simp only [Nat.add_zero]
      omega
    · have := List.pairwise_iff_getElem.1 hs t (t + i) (by omega) (by omega) (by omega)
      omega
  have hsp := hs
  rw [← List.take_append_drop t ss] at hsp
  obtain ⟨p1, p2, p3⟩ := List.pairwise_append.1 hsp
  refine List.pairwise_append.2 ⟨List.pairwise_append.2 ⟨p1, List.pairwise_singleton _ _, fun u hu c hc => ?_⟩, p2, fun u hu c hc => ?_⟩
  · simp at hc; subst hc; exact hlow u hu
  · rcases List.mem_append.1 hu with hu | hu
    · exact p3 u hu c hc
    · simp at hu; subst hu; exact hhigh c hc
theorem ins_perm (ss : List Int) (x : Int) (t : Nat) (l : List Int) (h : ss.Perm l) : (ss.take t ++ [x] ++ ss.drop t).Perm (l ++ [x]) := by
  have e : (ss.take t ++ [x] ++ ss.drop t).Perm (x :: ss) := by
    rw [List.append_assoc]
    refine (List.perm_middle (l₁ := ss.take t) (a := x) (l₂ := ss.drop t)).trans ?_
    rw [List.take_append_drop]
  exact e.trans ((List.Perm.cons x h).trans (List.perm_append_singleton x l).symm)
theorem Zs.base {e : TypeId} {k : IntKind} {B B' : Nat} {w : World} {v : Value} {l : List Int} (h : Zs e k B w v l) (hB : B' ≤ B) : Zs e k B' w v l := by
  refine ⟨h.1, ?_⟩
  rcases h.2 with h | ⟨g, cap, cur, h1, h2, h3⟩
  · exact .inl h
  · exact .inr ⟨g, cap, cur, h1, Nat.le_trans hB h2, h3⟩
theorem bel_alloc {w u : World} (h : Below w.heap.size w u) (o : Obj) : Below w.heap.size w (u.alloc o) := h.alloc h.size o
theorem ks_drew {w : World} {a : Addr} {v : Value} (hc : w.cell? a = some v) : Below w.heap.size w w.drew ∧ w.drew.cell? a = some v :=
  ⟨(Below.refl _ _).drew, ((Below.refl w.heap.size w).drew.cell (World.block_lt_of_cell? _ _ hc)).trans hc⟩
theorem ks_of {w u : World} {a : Addr} {v : Value} (hc : w.cell? a = some v) (h : Below w.heap.size w u) : Below w.heap.size w u ∧ u.cell? a = some v := ⟨h, (h.cell (World.block_lt_of_cell? _ _ hc)).trans hc⟩
theorem bel_step {w u u' : World} (h : Below w.heap.size w u) (k : Below u.heap.size u u') : Below w.heap.size w u' := h.trans (k.mono h.size)
theorem own_base {B B' : Nat} {w : World} {e : TypeId} {size : Nat} {v : Value} {n : Nat} {xs : List Value} (h : w.ownsRow B e size v n xs) (hB : B' ≤ B) : w.ownsRow B' e size v n xs := by
  refine ⟨h.1, ?_⟩
  rcases h.2 with h | ⟨g, cap, cur, h1, h2, h3⟩
  · exact .inl h
  · exact .inr ⟨g, cap, cur, h1, Nat.le_trans hB h2, h3⟩
theorem one_one (x : Int) : ∀ u ∈ [Value.int .i64 x], u.oneCell' = true := fun u h => by simp at h; subst h; rfl
theorem news_one_keep {W u : World} {x : Value} {t : TypeId} (h : Below (W.alloc (.cells #[x] t)).heap.size (W.alloc (.cells #[x] t)) u) : ∀ j y, [x][j]? = some y → u.cell? ((⟨W.heap.size, 0, none⟩ : Addr).add j) = some y := by
  intro j y hy
  have h1 := cell_one_new W x t j y hy
  exact (h.cell (World.block_lt_of_cell? _ _ h1)).trans h1
theorem own_nil (w : World) (B : Nat) (e : TypeId) (size : Nat) : w.ownsRow B e size (.slice none 0 0) 0 [] := ⟨by simp, .inl ⟨rfl, rfl⟩⟩
theorem vz_cells {w : World} {ad : Addr} {k : IntKind} {l : List Int} (h : ∀ i x, l[i]? = some x → w.cell? (ad.add i) = some (.int k x)) : ∀ j u, (vz k l)[j]? = some u → w.cell? (ad.add j) = some u := by
  intro j u hu
  unfold vz at hu
  rw [List.getElem?_map] at hu
  cases hx : l[j]? with
  | none => rw [hx] at hu; cases hu
  | some x => rw [hx] at hu; cases hu; exact h j x hx

set_option maxRecDepth 20000 in
set_option maxHeartbeats 4000000 in
theorem HistRank_any (b0 : Nat) (hb0 : b0 < 256) (v : Value) (ls : List Int) (nu de : Nat) (hnu : nu < 65536) (hde : de < 65536) (w : World) (hv : NRow .i64 w v ls) (hi : ∀ x ∈ ls, I64 x) :
    Calls Try.prog 4 #[.int .u8 b0, v, .int .u16 nu, .int .u16 de] w fun e w' => e = .returned (.bool true) ∧ Below w.heap.size w w' := by
  obtain ⟨i0, hi0, hz0, hz1, hz2⟩ : ∃ i, Try.prog.info? 2 = some i ∧ i.zero = some (.int .i64 0) ∧ i.size = 1 ∧ i.bytes = 8 := by
    have := infoI2
    cases h : Try.prog.info? 2 with
    | none => rw [h] at this; cases this
    | some i => rw [h] at this; simp at this; exact ⟨i, rfl, this.1, this.2.1, this.2.2⟩
  go_enter Try.func4, Try.ntmps4
  go_wp2_with fail
  refine (examples_any _).mono ?_
  rintro e w1 ⟨rfl, b1⟩
  have B1 := Lib.hid b1
  have HVL := Lib.hid hv
  clear b1
  obtain ⟨a, cp, rfl, hcap, hmax, _⟩ := hv.form
  clear hv
  obtain ⟨n, hn⟩ : ∃ n, n = ls.length := ⟨_, rfl⟩
  rw [← hn] at hcap HVL ⊢
  clear hn
  obtain ⟨b, hb⟩ : ∃ b, b = b0 % 5 := ⟨_, rfl⟩
  have hb4 : b ≤ 4 := by omega
  have eb : (b0 : Int) % 5 = (b : Int) := by omega
  obtain ⟨k, hk⟩ : ∃ k, k = min n 60 := ⟨_, rfl⟩
  have L1 := Lib.hid (HVL.out.take k (by omega))
  have ek : (min (n : Int) 60).toNat = k := by omega
  have hk60 : k ≤ 60 := by omega
  obtain ⟨ll, hll⟩ : ∃ ll, ll = ls.take k := ⟨_, rfl⟩
  have hIl : ∀ x ∈ ll, I64 x := fun x hx => hi x (List.mem_of_mem_take (hll ▸ hx))
  rw [← hll] at L1
  have hlen : ll.length = k := L1.out.cells.1
  have HLEN := Lib.hid hlen
  clear hb hk hll HVL hlen
  go_wp2_with fail
  have EB := Lib.hid eb
  have K := of_any b hb4 _ ll w1 (L1.out.mono B1.out) (by rw [HLEN.out]; omega) hIl
  clear eb
  refine K.mono ?_
  rintro e w2 ⟨rfl, s2, b2⟩
  obtain ⟨p, hp⟩ : ∃ p, p = w1.heap.size := ⟨_, rfl⟩
  rw [← hp] at s2 b2 ⊢
  have hBp : w.heap.size ≤ p := by have h1 := B1.out.size; omega
  have S2 := Lib.hid s2
  have B2 := Lib.hid (B1.out.trans (b2.mono hBp))
  obtain ⟨B, hB⟩ : ∃ B, B = w2.heap.size := ⟨_, rfl⟩
  have HBw := Lib.hid hB
  have CL := Lib.hid (show ∀ (u : World), Below B w2 u → ∀ (i : Nat) (x : Int), ll[i]? = some x → ∃ ad, a = some ad ∧ u.cell? (ad.add i) = some (Value.int IntKind.i64 x) from fun u hu i x hx => by
    have L2 := L1.out.mono B2.out
    cases a with
    | none =>
      have := (L2.none rfl).1
      have := (List.getElem?_eq_some_iff.1 hx).1
      have := L2.cells.1
      omega
    | some ad =>
      have h := L2.cells.2 ad rfl i x hx
      rw [hB] at hu
      exact ⟨ad, rfl, (hu.cell (World.block_lt_of_cell? _ _ h)).trans h⟩)
  clear s2 b2 hp K hB
  go_wp2_with fail
  go_loopw [12, 13, 14] (fun x y z wr => ∃ (v : Value) (j : Nat) (ss : List Int), v = x ∧ y = .int .i64 j ∧ j ≤ k ∧ Zs 2 .i64 B wr v ss ∧ ss.Perm (ll.take j) ∧ ss.Pairwise (· ≤ ·) ∧ Below B w2 wr) (fun _ y _ _ => k - (intOf y).toNat)
  case atStart => exact ⟨_, 0, [], rfl, rfl, Nat.zero_le _, Zs.nil _ _ _ _, List.Perm.refl _, List.Pairwise.nil, Below.refl _ _⟩
  case round =>
    obtain ⟨v, j, ss, rfl, rfl, hj, zz, pp, so, bb⟩ := hrel
    have ZZ := Lib.hid zz
    have PP := Lib.hid pp
    have SO := Lib.hid so
    have BB := Lib.hid bb
    clear zz pp so bb
    rcases Nat.lt_or_ge j k with hlt | hge
    · have hj1 : (j : Int) < k := by omega
      obtain ⟨x, hx⟩ : ∃ x, ll[j]? = some x := ⟨_, List.getElem?_eq_getElem (by rw [HLEN.out]; exact hlt)⟩
      obtain ⟨ad, had, _⟩ := CL.out _ BB.out j x hx
      have CX := Lib.hid (show ∀ u, Below B w2 u → u.cell? (ad.add j) = some (.int .i64 x) from fun u hu => by
        obtain ⟨ad', e, h⟩ := CL.out u hu j x hx
        rw [had] at e; cases e; exact h)
      subst had
      have EX := Lib.hid (show ll.take (j + 1) = ll.take j ++ [x] by rw [List.take_add_one, hx]; rfl)
      obtain ⟨av, cv, rfl, v1, v2, v3, v4⟩ := ZZ.out.form
      have hsl : ss.length = j := by rw [PP.out.length_eq, List.length_take, HLEN.out]; omega
      rw [hsl] at ZZ v1 v3 ⊢
      have HSL := Lib.hid hsl
      have V4 := Lib.hid v4
      have hlt' := Lib.hid hlt
      clear hx hlt hsl v4
      go_wp2_with fail
      rename World => W0
      go_loopw [14] (fun z u => ∃ (t : Nat), z = .int .i64 t ∧ t ≤ j ∧ (∀ i u, i < t → ss[i]? = some u → u < x) ∧ Below W0.heap.size W0 u) (fun z _ => j - (intOf z).toNat)
      case atStart => exact ⟨0, rfl, Nat.zero_le _, fun i u h => by omega, Below.refl _ _⟩
      case round =>
        obtain ⟨t, rfl, htj, hbef, bb⟩ := hrel
        have HBEF := Lib.hid hbef
        have HW0 := Lib.hid bb
        have HU := Lib.hid (show Below B w2 wr from bt BB.out (by rw [HBw.out]; exact Nat.le_refl _) bb)
        clear bb hbef
        rcases Nat.lt_or_ge t j with htl | htg
        · obtain ⟨u, hu⟩ : ∃ u, ss[t]? = some u := ⟨_, List.getElem?_eq_getElem (by rw [HSL.out]; exact htl)⟩
          obtain ⟨sa, rfl, c0'⟩ := V4.out t u hu
          have c0 := (HW0.out.cell (World.block_lt_of_cell? _ _ c0')).trans c0'
          have c1 := CX.out _ HU.out
          have q1 : (t : Int) < (j : Int) := by omega
          have q2 : decide ((t : Int) < (j : Int)) = true := decide_eq_true q1
          have HTL := Lib.hid htl
          have HUU := Lib.hid hu
          clear htl hu c0'
          by_cases hlt2 : u < x
          · have q3 : decide (u < x) = true := decide_eq_true hlt2
            go_wp2_with fail
            refine wp_region_quiet (C := fun w' => Below wr.heap.size wr w') (by kernel_rfl) (by kernel_rfl) ((Below.refl _ _).drew) ?_
            repeat (
              with_reducible refine wpQuiet_step (fun K hK => ?_)
              go_simp
              first
                | (with_reducible refine hK _ ?_; clear hK K)
                | (apply Exists.intro
                   refine ⟨fun v hv => ?_, hK _ ?_⟩
                   (first
                     | with_reducible rfl
                     | (have d0 := (hv.cell (World.block_lt_of_cell? _ _ c0)).trans c0
                        have d1 := (hv.cell (World.block_lt_of_cell? _ _ c1)).trans c1
                        go_simp
                        with_reducible rfl))
                   clear hK K))
            refine wpQuiet_nil ?_
            intro wf hk
            have BF := Lib.hid (bt HW0.out (Nat.le_refl _) hk)
            clear hk c0 c1
            go_wp2
            go_roundw
            case rel => exact ⟨t + 1, by go_num, HTL.out, fun i u' hi' hu' => by
              by_cases e : i = t
              · subst e
                rw [HUU.out] at hu'; cases hu'; exact hlt2
              · exact HBEF.out i u' (by omega) hu', BF.out⟩
            case measure => have := HTL.out; simp [intOf]; omega
          · have q3 : decide (u < x) = false := decide_eq_false hlt2
            go_wp2_with fail
            refine wp_region_quiet (C := fun w' => Below wr.heap.size wr w') (by kernel_rfl) (by kernel_rfl) ((Below.refl _ _).drew) ?_
            repeat (
              with_reducible refine wpQuiet_step (fun K hK => ?_)
              go_simp
              first
                | (with_reducible refine hK _ ?_; clear hK K)
                | (apply Exists.intro
                   refine ⟨fun v hv => ?_, hK _ ?_⟩
                   (first
                     | with_reducible rfl
                     | (have d0 := (hv.cell (World.block_lt_of_cell? _ _ c0)).trans c0
                        have d1 := (hv.cell (World.block_lt_of_cell? _ _ c1)).trans c1
                        go_simp
                        with_reducible rfl))
                   clear hK K))
            refine wpQuiet_nil ?_
            intro wf hk
            have HEND := Lib.hid (show ∀ u', ss[t]? = some u' → x ≤ u' from fun u' hu' => by rw [HUU.out] at hu'; cases hu'; omega)
            replace HU := Lib.hid (show Below B w2 wf from bt HU.out (by rw [HBw.out]; exact Nat.le_refl _) hk)
            replace HW0 := Lib.hid (show Below W0.heap.size W0 wf from bt HW0.out (Nat.le_refl _) hk)
            rename World => wz
            clear hk c0 c1
            have htj' : (t : Int) ≤ (j : Int) := by omega
            have hjc : (j : Int) ≤ (cv : Int) := by omega
            have htc : (t : Int) ≤ (cv : Int) := by omega
            have ht0 : (0 : Int) ≤ (t : Int) := by omega
            have hj0 : (0 : Int) ≤ (j : Int) := by omega
            have c1 := CX.out _ HU.out
            go_wp2_with fail
            have HC := Lib.hid c1
            have ALL := Lib.hid (show ∀ u', Below wz.heap.size wz u' → ∀ i y, ss[i]? = some y → ∃ a', some sa = some a' ∧ u'.cell? (a'.add i) = some (.int .i64 y) from fun u' hu' i y hy => by
              obtain ⟨a', e, h⟩ := V4.out i y hy
              have h2 := (HW0.out.cell (World.block_lt_of_cell? _ _ h)).trans h
              exact ⟨a', e, (hu'.cell (World.block_lt_of_cell? _ _ h2)).trans h2⟩)
            have NEWS1 := Lib.hid (show ∀ u', Below wz.heap.size wz u' → ∀ ad', some sa = some ad' → ∀ i y, (vz .i64 (ss.take t))[i]? = some y → u'.cell? (ad'.add i) = some y from fun u' hu' ad' e => vz_cells fun i y hy => by
              rw [List.getElem?_take] at hy
              split at hy
              · obtain ⟨a', e', h⟩ := ALL.out u' hu' i y hy
                rw [e] at e'; cases e'; exact h
              · cases hy)
            have LEN1 : (vz .i64 (ss.take t)).length = t * 1 := by rw [vz_length, List.length_take]; have := HSL.out; omega
            have LEN3 : (vz .i64 (ss.drop t)).length = (j - t) * 1 := by rw [vz_length, List.length_drop]; have := HSL.out; omega
            have ANONE : ¬ (if cv = t then some sa else some (sa.add t)) = none := by split <;> simp
            have NEWS3 := Lib.hid (show ∀ u', Below wz.heap.size wz u' → ∀ ad', (if cv = t then some sa else some (sa.add t)) = some ad' → ∀ i y, (vz .i64 (ss.drop t))[i]? = some y → u'.cell? (ad'.add i) = some y from fun u' hu' ad' e => vz_cells fun i y hy => by
              rw [List.getElem?_drop] at hy
              obtain ⟨a', e', h⟩ := ALL.out u' hu' (t + i) y hy
              cases e'
              have hlt3 := (List.getElem?_eq_some_iff.1 hy).1
              rw [if_neg (by have := HSL.out; omega)] at e
              cases e
              rw [Addr.add_add]
              exact h)
            go_region_held3 (fun u' => Below wz.heap.size wz u' ∧ u'.cell? (ad.add j) = some (.int .i64 x))
              (first
                | exact ks_drew HC.out
                | exact ks_of HC.out (bel_alloc (Below.refl _ _) _).drew
                | exact ks_of HC.out (bel_alloc (by first | assumption | exact (Below.refl _ _).drew | exact And.left (by assumption)) _)
                | exact ks_of HC.out (bel_step (by first | assumption | exact And.left (by assumption) | exact (Below.refl _ _).drew | exact (bel_alloc (Below.refl _ _) _).drew) hb1)
                | exact ks_of HC.out (Below.trans (And.left (by assumption)) hb3)
                | exact ks_of HC.out (Below.trans (And.left (by assumption)) hb2)
                | fail)
              ((first
                | (apply step_any (s := .const (.slice none 0 0)) (x := .tmp 72) (t := 22) (e := 2) (i := i0) (z := .int .i64 0) (size := 1) (bytes := 8) (v := .slice none 0 0) (n := 0) (xs := []) (ax := some sa) (m := t) (c := cv) (news := vz .i64 (ss.take t)); (case hgd => rfl); (case ho => rfl); (case hbase => exact Nat.le_refl _); (case ht => exact Try.underlying22); (case hi => exact hi0); (case hz => exact hz0); (case hsize => exact hz1); (case hby => exact hz2); (case hzs => rfl); (case hsz => decide); (case hs => rfl); (case hx => rfl); (case hown => exact own_nil _ _ _ _); (case hnone => intro h; cases h); (case hl => exact LEN1); (case hnews => exact NEWS1.out _ (by first | assumption | exact And.left (by assumption) | exact (Below.refl _ _).drew | exact (bel_alloc (Below.refl _ _) _).drew)); (case h1 => exact vz_one _ _); (case h63 => unfold maxLen; omega); (case hbytes => omega); intro r1 u1 own1 hb1)
                | (apply step_any (s := .tmp 73) (x := .tmp 78) (t := 22) (base := wz.heap.size) (e := 2) (i := i0) (z := .int .i64 0) (size := 1) (bytes := 8) (v := r1) (n := 0 + t) (ax := some ⟨u1.heap.size, 0, none⟩) (m := 1) (c := 1) (news := [.int .i64 x]); (case hgd => rfl); (case ho => rfl); (case ht => exact Try.underlying22); (case hi => exact hi0); (case hz => exact hz0); (case hsize => exact hz1); (case hby => exact hz2); (case hzs => rfl); (case hsz => decide); (case hs => rfl); (case hx => rfl); (case hown => exact own_base (own1.alloc _) (Nat.le_refl _)); (case hnone => intro h; cases h); (case hl => rfl); (case hnews => intro ad' e; cases e; exact cell_one_new _ _ _); (case h1 => exact one_one x); (case h63 => unfold maxLen; omega); (case hbytes => omega); (case hbase => (obtain ⟨hq, _⟩ : Below wz.heap.size wz _ ∧ _ := by assumption); exact hq.size); intro r2 u2 own2 hb2)
                | (apply step_any (s := .tmp 73) (x := .tmp 78) (t := 22) (base := wz.heap.size) (e := 2) (i := i0) (z := .int .i64 0) (size := 1) (bytes := 8) (v := r1) (n := 0 + t) (ax := some ⟨wz.heap.size, 0, none⟩) (m := 1) (c := 1) (news := [.int .i64 x]); (case hgd => rfl); (case ho => rfl); (case ht => exact Try.underlying22); (case hi => exact hi0); (case hz => exact hz0); (case hsize => exact hz1); (case hby => exact hz2); (case hzs => rfl); (case hsz => decide); (case hs => rfl); (case hx => rfl); (case hown => exact own_base own1 (by simp)); (case hnone => intro h; cases h); (case hl => rfl); (case hnews => intro ad' e; cases e; exact news_one_keep (W := wz) ⟨hb1.os, hb1.tape, hb1.output, hb1.size, hb1.block⟩); (case h1 => exact one_one x); (case h63 => unfold maxLen; omega); (case hbytes => omega); (case hbase => (obtain ⟨hq, _⟩ : Below wz.heap.size wz _ ∧ _ := by assumption); exact hq.size); intro r2 u2 own2 hb2)
                | (apply step_any (s := .tmp 79) (x := .tmp 82) (t := 22) (base := wz.heap.size) (e := 2) (i := i0) (z := .int .i64 0) (size := 1) (bytes := 8) (v := r2) (n := 0 + t + 1) (ax := (if cv = t then some sa else some (sa.add t))) (m := (j - t)) (c := (cv - t)) (news := (vz .i64 (ss.drop t))); (case hgd => rfl); (case ho => rfl); (case ht => exact Try.underlying22); (case hi => exact hi0); (case hz => exact hz0); (case hsize => exact hz1); (case hby => exact hz2); (case hzs => rfl); (case hsz => decide); (case hs => rfl); (case hx => rfl); (case hown => exact own2); (case hnone => intro h; exact absurd h ANONE); (case hl => exact LEN3); (case hnews => exact NEWS3.out _ (And.left (by assumption))); (case h1 => exact vz_one _ _); (case h63 => unfold maxLen; omega); (case hbytes => omega); (case hbase => (obtain ⟨hq, _⟩ : Below wz.heap.size wz _ ∧ _ := by assumption); exact hq.size); intro r3 u3 own3 hb3)
                | fail))
            all_goals (
              obtain ⟨bz, _⟩ : Below wz.heap.size wz u3 ∧ _ := by assumption
              have hBz : B ≤ wz.heap.size := by have h1 := HU.out.size; have h2 := HBw.out; omega
              have Z3 := Lib.hid (show Zs 2 .i64 B u3 r3 (ss.take t ++ [x] ++ ss.drop t) by
                have e1 : (ss.take t ++ [x] ++ ss.drop t).length = 0 + t + 1 + (j - t) := by
                  have := HSL.out
                  rw [List.length_append, List.length_append, List.length_take, List.length_drop, List.length_singleton]; omega
                have e2 : vz .i64 (ss.take t ++ [x] ++ ss.drop t) = [] ++ vz .i64 (ss.take t) ++ [.int .i64 x] ++ vz .i64 (ss.drop t) := by simp [vz]
                unfold Zs
                rw [e1, e2]
                exact own_base own3 hBz)
              have B3 := Lib.hid (show Below B w2 u3 from bt HU.out (by rw [HBw.out]; exact Nat.le_refl _) bz)
              have PN := Lib.hid (show (ss.take t ++ [x] ++ ss.drop t).Perm (ll.take (j + 1)) by rw [EX.out]; exact ins_perm ss x t _ PP.out)
              have SN := Lib.hid (ins_sorted ss x t (by rw [HSL.out]; omega) SO.out HBEF.out (fun u hu => by have := HEND.out u hu; omega))
              clear own1 own2 own3 hb1 hb2 hb3 bz c1 NEWS1 NEWS3 ALL HC LEN1 LEN3
              go_wp2
              go_roundw
              (case rel => exact ⟨r3, j + 1, _, rfl, by go_num, hlt'.out, Z3.out, PN.out, SN.out, B3.out⟩)
              (case measure => have := hlt'.out; simp [intOf]; omega))
        · have htj2 : t = j := by omega
          have HEND := Lib.hid (show ∀ u', ss[t]? = some u' → x ≤ u' from fun u' hu' => by have := (List.getElem?_eq_some_iff.1 hu').1; have := HSL.out; omega)
          have HTJ := Lib.hid htj2
          clear htj2
          cases av with
          | none =>
            obtain ⟨hj0, hc0⟩ := v3 rfl
            subst hj0 hc0
            obtain rfl : t = 0 := by omega
            go_wp2_with fail
            refine wp_region_quiet (C := fun w' => Below wr.heap.size wr w') (by kernel_rfl) (by kernel_rfl) ((Below.refl _ _).drew) ?_
            repeat (
              with_reducible refine wpQuiet_step (fun K hK => ?_)
              go_simp
              first
                | (with_reducible refine hK _ ?_; clear hK K)
                | (apply Exists.intro
                   refine ⟨fun v hv => ?_, hK _ ?_⟩
                   (first
                     | with_reducible rfl)
                   clear hK K))
            refine wpQuiet_nil ?_
            intro wf hk
            replace HU := Lib.hid (show Below B w2 wf from bt HU.out (by rw [HBw.out]; exact Nat.le_refl _) hk)
            replace HW0 := Lib.hid (show Below W0.heap.size W0 wf from bt HW0.out (Nat.le_refl _) hk)
            rename World => wz
            clear hk
            obtain rfl : ss = [] := List.length_eq_zero_iff.1 HSL.out
            have c1 := CX.out _ HU.out
            rw [Addr.add_zero'] at c1
            go_wp2_with fail
            have HC := Lib.hid c1
            have hk00 : (0 : Int) < (k : Int) := by have := hlt'.out; omega
            have hk01 : 0 < k := hlt'.out
            have hk02 : (0 : Int) ≤ (0 : Int) := Int.le_refl _
            go_region_held3 (fun u' => Below wz.heap.size wz u' ∧ u'.cell? ad = some (.int .i64 x))
              (first
                | exact ks_drew HC.out
                | exact ks_of HC.out (bel_alloc (Below.refl _ _) _).drew
                | exact ks_of HC.out (bel_alloc (by first | assumption | exact (Below.refl _ _).drew | exact And.left (by assumption)) _)
                | exact ks_of HC.out (bel_step (by first | assumption | exact And.left (by assumption) | exact (Below.refl _ _).drew | exact (bel_alloc (Below.refl _ _) _).drew) hb1)
                | exact ks_of HC.out (Below.trans (And.left (by assumption)) hb3)
                | exact ks_of HC.out (Below.trans (And.left (by assumption)) hb2)
                | fail)
              ((first
                | (apply step_any (s := .const (.slice none 0 0)) (x := .tmp 72) (t := 22) (e := 2) (i := i0) (z := .int .i64 0) (size := 1) (bytes := 8) (v := .slice none 0 0) (n := 0) (xs := []) (ax := none) (m := 0) (c := 0) (news := []); (case hgd => rfl); (case ho => rfl); (case hbase => exact Nat.le_refl _); (case ht => exact Try.underlying22); (case hi => exact hi0); (case hz => exact hz0); (case hsize => exact hz1); (case hby => exact hz2); (case hzs => rfl); (case hsz => decide); (case hs => rfl); (case hx => rfl); (case hown => exact own_nil _ _ _ _); (case hnone => intro h; exact ⟨rfl, rfl⟩); (case hl => rfl); (case hnews => intro ad' h; cases h); (case h1 => intro u h; cases h); (case h63 => unfold maxLen; omega); (case hbytes => omega); intro r1 u1 own1 hb1)
                | (apply step_any (s := .tmp 73) (x := .tmp 78) (t := 22) (base := wz.heap.size) (e := 2) (i := i0) (z := .int .i64 0) (size := 1) (bytes := 8) (v := r1) (n := 0 + 0) (ax := some ⟨u1.heap.size, 0, none⟩) (m := 1) (c := 1) (news := [.int .i64 x]); (case hgd => rfl); (case ho => rfl); (case ht => exact Try.underlying22); (case hi => exact hi0); (case hz => exact hz0); (case hsize => exact hz1); (case hby => exact hz2); (case hzs => rfl); (case hsz => decide); (case hs => rfl); (case hx => rfl); (case hown => exact own_base (own1.alloc _) (Nat.le_refl _)); (case hnone => intro h; cases h); (case hl => rfl); (case hnews => intro ad' e; cases e; exact cell_one_new _ _ _); (case h1 => exact one_one x); (case h63 => unfold maxLen; omega); (case hbytes => omega); (case hbase => (obtain ⟨hq, _⟩ : Below wz.heap.size wz _ ∧ _ := by assumption); exact hq.size); intro r2 u2 own2 hb2)
                | (apply step_any (s := .tmp 73) (x := .tmp 78) (t := 22) (base := wz.heap.size) (e := 2) (i := i0) (z := .int .i64 0) (size := 1) (bytes := 8) (v := r1) (n := 0 + 0) (ax := some ⟨wz.heap.size, 0, none⟩) (m := 1) (c := 1) (news := [.int .i64 x]); (case hgd => rfl); (case ho => rfl); (case ht => exact Try.underlying22); (case hi => exact hi0); (case hz => exact hz0); (case hsize => exact hz1); (case hby => exact hz2); (case hzs => rfl); (case hsz => decide); (case hs => rfl); (case hx => rfl); (case hown => exact own_base own1 (by simp)); (case hnone => intro h; cases h); (case hl => rfl); (case hnews => intro ad' e; cases e; exact news_one_keep (W := wz) ⟨hb1.os, hb1.tape, hb1.output, hb1.size, hb1.block⟩); (case h1 => exact one_one x); (case h63 => unfold maxLen; omega); (case hbytes => omega); (case hbase => (obtain ⟨hq, _⟩ : Below wz.heap.size wz _ ∧ _ := by assumption); exact hq.size); intro r2 u2 own2 hb2)
                | (apply step_any (s := .tmp 79) (x := .tmp 82) (t := 22) (base := wz.heap.size) (e := 2) (i := i0) (z := .int .i64 0) (size := 1) (bytes := 8) (v := r2) (n := 0 + 0 + 1) (ax := none) (m := 0) (c := 0) (news := []); (case hgd => rfl); (case ho => rfl); (case ht => exact Try.underlying22); (case hi => exact hi0); (case hz => exact hz0); (case hsize => exact hz1); (case hby => exact hz2); (case hzs => rfl); (case hsz => decide); (case hs => rfl); (case hx => rfl); (case hown => exact own2); (case hnone => intro h; exact ⟨rfl, rfl⟩); (case hl => rfl); (case hnews => intro ad' h; cases h); (case h1 => intro u h; cases h); (case h63 => unfold maxLen; omega); (case hbytes => omega); (case hbase => (obtain ⟨hq, _⟩ : Below wz.heap.size wz _ ∧ _ := by assumption); exact hq.size); intro r3 u3 own3 hb3)
                | fail))
            all_goals (
              obtain ⟨bz, _⟩ : Below wz.heap.size wz u3 ∧ _ := by assumption
              have hBz : B ≤ wz.heap.size := by have h1 := HU.out.size; have h2 := HBw.out; omega
              have Z3 := Lib.hid (show Zs 2 .i64 B u3 r3 [x] from own_base own3 hBz)
              have B3 := Lib.hid (show Below B w2 u3 from bt HU.out (by rw [HBw.out]; exact Nat.le_refl _) bz)
              have PN := Lib.hid (show [x].Perm (ll.take (0 + 1)) by rw [EX.out]; exact List.Perm.refl _)
              have SN := Lib.hid (show [x].Pairwise (· ≤ ·) from List.pairwise_singleton _ _)
              clear own1 own2 own3 hb1 hb2 hb3 bz c1 HC
              go_wp2
              go_roundw
              (case rel => exact ⟨r3, 0 + 1, _, rfl, by go_num, hlt'.out, Z3.out, PN.out, SN.out, B3.out⟩)
              (case measure => have := hlt'.out; simp [intOf]; omega))
          | some sa =>
            go_wp2_with fail
            have q1 : ¬ (t : Int) < (j : Int) := by have := HTJ.out; omega
            have q2 : decide ((t : Int) < (j : Int)) = false := decide_eq_false q1
            refine wp_region_quiet (C := fun w' => Below wr.heap.size wr w') (by kernel_rfl) (by kernel_rfl) ((Below.refl _ _).drew) ?_
            repeat (
              with_reducible refine wpQuiet_step (fun K hK => ?_)
              go_simp
              first
                | (with_reducible refine hK _ ?_; clear hK K)
                | (apply Exists.intro
                   refine ⟨fun v hv => ?_, hK _ ?_⟩
                   (first
                     | with_reducible rfl)
                   clear hK K))
            refine wpQuiet_nil ?_
            intro wf hk
            clear q1 q2 htg
            replace HU := Lib.hid (show Below B w2 wf from bt HU.out (by rw [HBw.out]; exact Nat.le_refl _) hk)
            replace HW0 := Lib.hid (show Below W0.heap.size W0 wf from bt HW0.out (Nat.le_refl _) hk)
            rename World => wz
            clear hk
            have htj' : (t : Int) ≤ (j : Int) := by omega
            have hjc : (j : Int) ≤ (cv : Int) := by omega
            have htc : (t : Int) ≤ (cv : Int) := by omega
            have ht0 : (0 : Int) ≤ (t : Int) := by omega
            have hj0 : (0 : Int) ≤ (j : Int) := by omega
            have c1 := CX.out _ HU.out
            go_wp2_with fail
            have HC := Lib.hid c1
            have ALL := Lib.hid (show ∀ u', Below wz.heap.size wz u' → ∀ i y, ss[i]? = some y → ∃ a', some sa = some a' ∧ u'.cell? (a'.add i) = some (.int .i64 y) from fun u' hu' i y hy => by
              obtain ⟨a', e, h⟩ := V4.out i y hy
              have h2 := (HW0.out.cell (World.block_lt_of_cell? _ _ h)).trans h
              exact ⟨a', e, (hu'.cell (World.block_lt_of_cell? _ _ h2)).trans h2⟩)
            have NEWS1 := Lib.hid (show ∀ u', Below wz.heap.size wz u' → ∀ ad', some sa = some ad' → ∀ i y, (vz .i64 (ss.take t))[i]? = some y → u'.cell? (ad'.add i) = some y from fun u' hu' ad' e => vz_cells fun i y hy => by
              rw [List.getElem?_take] at hy
              split at hy
              · obtain ⟨a', e', h⟩ := ALL.out u' hu' i y hy
                rw [e] at e'; cases e'; exact h
              · cases hy)
            have LEN1 : (vz .i64 (ss.take t)).length = t * 1 := by rw [vz_length, List.length_take]; have := HSL.out; omega
            have LEN3 : (vz .i64 (ss.drop t)).length = (j - t) * 1 := by rw [vz_length, List.length_drop]; have := HSL.out; omega
            have ANONE : ¬ (if cv = t then some sa else some (sa.add t)) = none := by split <;> simp
            have NEWS3 := Lib.hid (show ∀ u', Below wz.heap.size wz u' → ∀ ad', (if cv = t then some sa else some (sa.add t)) = some ad' → ∀ i y, (vz .i64 (ss.drop t))[i]? = some y → u'.cell? (ad'.add i) = some y from fun u' hu' ad' e => vz_cells fun i y hy => by
              rw [List.getElem?_drop] at hy
              obtain ⟨a', e', h⟩ := ALL.out u' hu' (t + i) y hy
              cases e'
              have hlt3 := (List.getElem?_eq_some_iff.1 hy).1
              rw [if_neg (by have := HSL.out; omega)] at e
              cases e
              rw [Addr.add_add]
              exact h)
            go_region_held3 (fun u' => Below wz.heap.size wz u' ∧ u'.cell? (ad.add j) = some (.int .i64 x))
              (first
                | exact ks_drew HC.out
                | exact ks_of HC.out (bel_alloc (Below.refl _ _) _).drew
                | exact ks_of HC.out (bel_alloc (by first | assumption | exact (Below.refl _ _).drew | exact And.left (by assumption)) _)
                | exact ks_of HC.out (bel_step (by first | assumption | exact And.left (by assumption) | exact (Below.refl _ _).drew | exact (bel_alloc (Below.refl _ _) _).drew) hb1)
                | exact ks_of HC.out (Below.trans (And.left (by assumption)) hb3)
                | exact ks_of HC.out (Below.trans (And.left (by assumption)) hb2)
                | fail)
              ((first
                | (apply step_any (s := .const (.slice none 0 0)) (x := .tmp 72) (t := 22) (e := 2) (i := i0) (z := .int .i64 0) (size := 1) (bytes := 8) (v := .slice none 0 0) (n := 0) (xs := []) (ax := some sa) (m := t) (c := cv) (news := vz .i64 (ss.take t)); (case hgd => rfl); (case ho => rfl); (case hbase => exact Nat.le_refl _); (case ht => exact Try.underlying22); (case hi => exact hi0); (case hz => exact hz0); (case hsize => exact hz1); (case hby => exact hz2); (case hzs => rfl); (case hsz => decide); (case hs => rfl); (case hx => rfl); (case hown => exact own_nil _ _ _ _); (case hnone => intro h; cases h); (case hl => exact LEN1); (case hnews => exact NEWS1.out _ (by first | assumption | exact And.left (by assumption) | exact (Below.refl _ _).drew | exact (bel_alloc (Below.refl _ _) _).drew)); (case h1 => exact vz_one _ _); (case h63 => unfold maxLen; omega); (case hbytes => omega); intro r1 u1 own1 hb1)
                | (apply step_any (s := .tmp 73) (x := .tmp 78) (t := 22) (base := wz.heap.size) (e := 2) (i := i0) (z := .int .i64 0) (size := 1) (bytes := 8) (v := r1) (n := 0 + t) (ax := some ⟨u1.heap.size, 0, none⟩) (m := 1) (c := 1) (news := [.int .i64 x]); (case hgd => rfl); (case ho => rfl); (case ht => exact Try.underlying22); (case hi => exact hi0); (case hz => exact hz0); (case hsize => exact hz1); (case hby => exact hz2); (case hzs => rfl); (case hsz => decide); (case hs => rfl); (case hx => rfl); (case hown => exact own_base (own1.alloc _) (Nat.le_refl _)); (case hnone => intro h; cases h); (case hl => rfl); (case hnews => intro ad' e; cases e; exact cell_one_new _ _ _); (case h1 => exact one_one x); (case h63 => unfold maxLen; omega); (case hbytes => omega); (case hbase => (obtain ⟨hq, _⟩ : Below wz.heap.size wz _ ∧ _ := by assumption); exact hq.size); intro r2 u2 own2 hb2)
                | (apply step_any (s := .tmp 73) (x := .tmp 78) (t := 22) (base := wz.heap.size) (e := 2) (i := i0) (z := .int .i64 0) (size := 1) (bytes := 8) (v := r1) (n := 0 + t) (ax := some ⟨wz.heap.size, 0, none⟩) (m := 1) (c := 1) (news := [.int .i64 x]); (case hgd => rfl); (case ho => rfl); (case ht => exact Try.underlying22); (case hi => exact hi0); (case hz => exact hz0); (case hsize => exact hz1); (case hby => exact hz2); (case hzs => rfl); (case hsz => decide); (case hs => rfl); (case hx => rfl); (case hown => exact own_base own1 (by simp)); (case hnone => intro h; cases h); (case hl => rfl); (case hnews => intro ad' e; cases e; exact news_one_keep (W := wz) ⟨hb1.os, hb1.tape, hb1.output, hb1.size, hb1.block⟩); (case h1 => exact one_one x); (case h63 => unfold maxLen; omega); (case hbytes => omega); (case hbase => (obtain ⟨hq, _⟩ : Below wz.heap.size wz _ ∧ _ := by assumption); exact hq.size); intro r2 u2 own2 hb2)
                | (apply step_any (s := .tmp 79) (x := .tmp 82) (t := 22) (base := wz.heap.size) (e := 2) (i := i0) (z := .int .i64 0) (size := 1) (bytes := 8) (v := r2) (n := 0 + t + 1) (ax := (if cv = t then some sa else some (sa.add t))) (m := (j - t)) (c := (cv - t)) (news := (vz .i64 (ss.drop t))); (case hgd => rfl); (case ho => rfl); (case ht => exact Try.underlying22); (case hi => exact hi0); (case hz => exact hz0); (case hsize => exact hz1); (case hby => exact hz2); (case hzs => rfl); (case hsz => decide); (case hs => rfl); (case hx => rfl); (case hown => exact own2); (case hnone => intro h; exact absurd h ANONE); (case hl => exact LEN3); (case hnews => exact NEWS3.out _ (And.left (by assumption))); (case h1 => exact vz_one _ _); (case h63 => unfold maxLen; omega); (case hbytes => omega); (case hbase => (obtain ⟨hq, _⟩ : Below wz.heap.size wz _ ∧ _ := by assumption); exact hq.size); intro r3 u3 own3 hb3)
                | fail))
            all_goals (
              obtain ⟨bz, _⟩ : Below wz.heap.size wz u3 ∧ _ := by assumption
              have hBz : B ≤ wz.heap.size := by have h1 := HU.out.size; have h2 := HBw.out; omega
              have Z3 := Lib.hid (show Zs 2 .i64 B u3 r3 (ss.take t ++ [x] ++ ss.drop t) by
                have e1 : (ss.take t ++ [x] ++ ss.drop t).length = 0 + t + 1 + (j - t) := by
                  have := HSL.out
                  rw [List.length_append, List.length_append, List.length_take, List.length_drop, List.length_singleton]; omega
                have e2 : vz .i64 (ss.take t ++ [x] ++ ss.drop t) = [] ++ vz .i64 (ss.take t) ++ [.int .i64 x] ++ vz .i64 (ss.drop t) := by simp [vz]
                unfold Zs
                rw [e1, e2]
                exact own_base own3 hBz)
              have B3 := Lib.hid (show Below B w2 u3 from bt HU.out (by rw [HBw.out]; exact Nat.le_refl _) bz)
              have PN := Lib.hid (show (ss.take t ++ [x] ++ ss.drop t).Perm (ll.take (j + 1)) by rw [EX.out]; exact ins_perm ss x t _ PP.out)
              have SN := Lib.hid (ins_sorted ss x t (by rw [HSL.out]; omega) SO.out HBEF.out (fun u hu => by have := HEND.out u hu; omega))
              clear own1 own2 own3 hb1 hb2 hb3 bz c1 NEWS1 NEWS3 ALL HC LEN1 LEN3
              go_wp2
              go_roundw
              (case rel => exact ⟨r3, j + 1, _, rfl, by go_num, hlt'.out, Z3.out, PN.out, SN.out, B3.out⟩)
              (case measure => have := hlt'.out; simp [intOf]; omega))
    · have hj1 : ¬ (j : Int) < k := by omega
      have ESS := Lib.hid (spread_sorted b hb4 ll ss (by have := PP.out; rw [List.take_of_length_le (by rw [HLEN.out]; omega)] at this; exact this) SO.out hIl)
      have hssl : ss.length = k := by rw [PP.out.length_eq, List.length_take, HLEN.out]; omega
      have HIS := Lib.hid (show ∀ x ∈ ss, I64 x from fun x hx => hIl x (List.mem_of_mem_take (PP.out.mem_iff.1 hx)))
      obtain ⟨av, cv, rfl, v1, v2, v3, v4⟩ := ZZ.out.form
      rw [hssl] at v1 v3 ⊢
      have HSL := Lib.hid hssl
      have htl := total_ofL b ll
      rw [HLEN.out] at htl
      obtain ⟨l, hl⟩ : ∃ l, l = ofL b ll := ⟨_, rfl⟩
      rw [← hl] at ESS htl S2
      have HTL := Lib.hid htl
      have S3 := Lib.hid (S2.out.mono (show Below w2.heap.size w2 wr by rw [← HBw.out]; exact BB.out))
      have B3 := Lib.hid (bt B2.out (Nat.le_refl _) (show Below w2.heap.size w2 wr by rw [← HBw.out]; exact BB.out))
      rename World => W0
      have V4 := Lib.hid (show ∀ u', Below W0.heap.size W0 u' → ∀ i y, ss[i]? = some y → ∃ a', av = some a' ∧ u'.cell? (a'.add i) = some (.int .i64 y) from fun u' hu' i y hy => by
        obtain ⟨a', e, h⟩ := v4 i y hy
        exact ⟨a', e, (hu'.cell (World.block_lt_of_cell? _ _ h)).trans h⟩)
      have HRK := Lib.hid (show ∀ i y, ss[i]? = some y → rankZ l (i + 1) = (ofZ b y, true) from fun i y hy => rankZ_at l i _ (by rw [ESS.out, List.getElem?_map, hy]; rfl))
      clear hl htl v4 hge hssl
      go_wp2_with fail
      go_loopw [15, 16, 17, 18, 19] (fun z _ _ _ _ u => ∃ (i : Nat), z = .int .i64 i ∧ i ≤ k ∧ Below W0.heap.size W0 u) (fun z _ _ _ _ _ => k - (intOf z).toNat)
      case atStart => exact ⟨0, rfl, Nat.zero_le _, Below.refl _ _⟩
      case round =>
        obtain ⟨i, rfl, hik, bb⟩ := hrel
        have BW := Lib.hid bb
        have S4 := Lib.hid (S3.out.mono bb)
        clear bb
        rcases Nat.lt_or_ge i k with hlt | hge
        · have hj2 : (i : Int) < k := by omega
          obtain ⟨y, hy⟩ : ∃ y, ss[i]? = some y := ⟨_, List.getElem?_eq_getElem (by rw [HSL.out]; exact hlt)⟩
          have hY := HIS.out y (List.mem_of_getElem? hy)
          have RK := HRK.out i y hy
          have HY := Lib.hid hy
          have hlt' := Lib.hid hlt
          clear hy hlt
          go_wp2_with fail
          have K := s_rank S4.out (i + 1) (by omega)
          rw [RK, show ((i + 1 : Nat) : Int) = (i : Int) + 1 by omega] at K
          refine K.mono ?_
          rintro e u4 ⟨rfl, b4⟩
          have B4 := Lib.hid (bt BW.out (Nat.le_refl _) b4)
          obtain ⟨a', rfl, c0⟩ := V4.out _ B4.out i y HY.out
          clear b4 K RK
          go_wp2_with fail
          refine (u_of b hb4 y hY _).mono ?_
          rintro e u5 ⟨rfl, b5⟩
          have B5 := Lib.hid (bt B4.out (Nat.le_refl _) b5)
          clear b5 c0
          go_wp2
          go_roundw
          case rel => exact ⟨i + 1, by go_num, hlt'.out, B5.out⟩
          case measure => have := hlt'.out; simp [intOf]; omega
        · have hj2 : ¬ (i : Int) < k := by omega
          obtain ⟨D, hD⟩ : ∃ D, D = de + 1 := ⟨_, rfl⟩
          obtain ⟨N, hN⟩ : ∃ N, N = nu % (D + 1) := ⟨_, rfl⟩
          have eD : 1 + (de : Int) = (D : Int) := by omega
          have eN : (nu : Int) % ((D : Int) + 1) = (N : Int) := by rw [hN, Int.natCast_emod, Int.natCast_add]; rfl
          have hND : N ≤ D := by rw [hN]; exact Nat.le_of_lt_succ (Nat.mod_lt nu (Nat.succ_pos D))
          have hD1 : 1 ≤ D := by omega
          have hD2 : D ≤ 65536 := by omega
          have hD0 : ¬ (D : Int) + 1 = 0 := by omega
          have B6 := Lib.hid (bt B3.out (Nat.le_refl _) BW.out)
          have HND := Lib.hid hND
          clear hD hN hge
          by_cases hk0 : k = 0
          · have QN := quantL_none b N D hND hD1 (by omega) l (by rw [HTL.out]; exact hk0)
            have HK0 := Lib.hid hk0
            clear hk0
            go_wp2_with fail
            have K := s_quant S4.out N D (by omega) (by omega)
            rw [QN] at K
            refine K.mono ?_
            rintro e u4 ⟨rfl, b4⟩
            have S5 := Lib.hid (S4.out.mono b4)
            have B7 := Lib.hid (bt B6.out (Nat.le_refl _) b4)
            clear b4 K QN
            go_wp2_with fail
            have K := s_rank S5.out 0 (by omega)
            rw [rankZ_zero] at K
            refine K.mono ?_
            rintro e u5 ⟨rfl, b5⟩
            have S6 := Lib.hid (S5.out.mono b5)
            have B8 := Lib.hid (bt B7.out (Nat.le_refl _) b5)
            clear b5 K
            go_wp2_with fail
            have K := s_rank S6.out (k + 1) (by omega)
            rw [← HTL.out, rankZ_over, HTL.out, show ((k + 1 : Nat) : Int) = (k : Int) + 1 by omega] at K
            refine K.mono ?_
            rintro e u6 ⟨rfl, b6⟩
            have B9 := Lib.hid (bt B8.out (Nat.le_refl _) b6)
            clear b6 K
            have hk0 := HK0.out
            have hk0' : (k : Int) = 0 := by omega
            clear HK0
            go_wp2
            go_ret
            exact ⟨rfl, B9.out⟩
          · obtain ⟨A, hA, QA⟩ := quantL_at b l N D hND hD1 (by omega) (by rw [HTL.out]; omega)
            obtain ⟨R1, R2⟩ := prt_le k N D hND hD1 (by omega)
            rw [HTL.out] at hA
            obtain ⟨R, hR⟩ : ∃ R, R = prt k N D - 1 := ⟨_, rfl⟩
            have hRk : R < k := by omega
            rw [← hR] at hA
            obtain ⟨y, hy⟩ : ∃ y, ss[R]? = some y := ⟨_, List.getElem?_eq_getElem (by rw [HSL.out]; exact hRk)⟩
            have hAy : A = ofZ b y := by
              rw [ESS.out, List.getElem?_map, hy] at hA
              exact (Option.some.inj hA).symm
            have hY := HIS.out y (List.mem_of_getElem? hy)
            obtain ⟨g1, g2⟩ := holdsZ b y hb4 hY.1 hY.2
            rw [hAy] at QA
            have hkN : k * N ≤ 60 * 65536 := Nat.mul_le_mul hk60 (by omega)
            have hkN0 : (0 : Int) ≤ (k : Int) * (N : Int) := Int.mul_nonneg (Int.natCast_nonneg _) (Int.natCast_nonneg _)
            have hkN1 : (k : Int) * (N : Int) ≤ 3932160 := by
              have h := Int.ofNat_le.2 hkN
              rw [Int.natCast_mul] at h
              exact Int.le_trans h (by decide)
            have eR : max (((k : Int) * (N : Int) + (D : Int) - 1) / (D : Int)) 1 = (R : Int) + 1 := by
              have e1 : ((k : Int) * (N : Int) + (D : Int) - 1) = ((k * N + D - 1 : Nat) : Int) := by
                have : ((k * N : Nat) : Int) = (k : Int) * (N : Int) := Int.natCast_mul k N
                omega
              rw [e1, hR]
              unfold prt
              rw [← Int.natCast_ediv]
              unfold prt at R1
              omega
            have eD0 : ¬ (D : Int) = 0 := by omega
            have hRk' : (R : Int) < k := by omega
            have HA := Lib.hid hA
            have HY := Lib.hid hy
            have QA' := Lib.hid QA
            have hk0' : ¬ (k : Int) = 0 := by omega
            clear hA hy QA hR R1 R2 hAy hkN
            go_wp2_with fail
            have K := s_quant S4.out N D (by omega) (by omega)
            rw [QA'.out] at K
            refine K.mono ?_
            rintro e u4 ⟨rfl, b4⟩
            have S5 := Lib.hid (S4.out.mono b4)
            have B7 := Lib.hid (bt B6.out (Nat.le_refl _) b4)
            have BW5 := Lib.hid (bt BW.out (Nat.le_refl _) b4)
            clear b4 K
            go_wp2_with fail
            have K := s_rank S5.out 0 (by omega)
            rw [rankZ_zero] at K
            refine K.mono ?_
            rintro e u5 ⟨rfl, b5⟩
            have S6 := Lib.hid (S5.out.mono b5)
            have B8 := Lib.hid (bt B7.out (Nat.le_refl _) b5)
            have BW6 := Lib.hid (bt BW5.out (Nat.le_refl _) b5)
            clear b5 K
            go_wp2_with fail
            have K := s_rank S6.out (k + 1) (by omega)
            rw [← HTL.out, rankZ_over, HTL.out, show ((k + 1 : Nat) : Int) = (k : Int) + 1 by omega] at K
            refine K.mono ?_
            rintro e u6 ⟨rfl, b6⟩
            have B9 := Lib.hid (bt B8.out (Nat.le_refl _) b6)
            obtain ⟨a', rfl, c0⟩ := V4.out _ (bt BW6.out (Nat.le_refl _) b6) R y HY.out
            clear b6 K
            go_wp2
            go_ret
            exact ⟨rfl, B9.out⟩
theorem HistRank_row {b0 nu de : Int} {v : Value} {ns : List Int} {w : World} (h0 : (Lit.int .u8 b0).wf = true) (h1 : (Lit.int .u16 nu).wf = true) (h2 : (Lit.int .u16 de).wf = true) (hv : NRow .i64 w v ns) (hi : ∀ x ∈ ns, (Lit.int .i64 x).wf = true) :
    Calls Try.prog 4 #[.int .u8 b0, v, .int .u16 nu, .int .u16 de] w fun e w' => e = .returned (.bool true) ∧ Below w.heap.size w w' := by
  obtain ⟨b, rfl, hb⟩ := u8_wf h0
  obtain ⟨n, rfl, hn⟩ := u16_wf h1
  obtain ⟨d, rfl, hd⟩ := u16_wf h2
  exact HistRank_any b hb v ns n d hn hd w hv (fun x hx => i64_wf (hi x hx))
end Go.Proofs.Ytmhljblfbnjopaa.HHist
