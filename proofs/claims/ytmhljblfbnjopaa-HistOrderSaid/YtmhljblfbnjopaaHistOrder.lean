/- HistOrder: the law, walked. -/
import Derived.Test.YtmhljblfbnjopaaHistOrderP
namespace Go.Proofs.Ytmhljblfbnjopaa.HHist
set_option linter.unusedVariables false
open Go.RowKit Go.Proofs.Ytmhljblfbnjopaa.HMem Go.Proofs.Ytmhljblfbnjopaa.HBucket Go.Proofs.Ytmhljblfbnjopaa.HApp
open Go.Proofs.Ytmhljblfbnjopaa.Print (I64)

theorem Zs.below {e : TypeId} {k : IntKind} {B : Nat} {w w' : World} {v : Value} {l : List Int} (h : Zs e k B w v l) (b : Below w.heap.size w w') : Zs e k B w' v l := h.mono b
theorem rev_drop (l : List Int) (j : Nat) (x : Int) (hx : l[j]? = some x) : (l.drop j).reverse = (l.drop (j + 1)).reverse ++ [x] := by
  have hj := (List.getElem?_eq_some_iff.1 hx).1
  rw [List.drop_eq_getElem_cons hj, List.reverse_cons]
  have : l[j] = x := Option.some.inj ((List.getElem?_eq_getElem hj).symm.trans hx)
  rw [this]
theorem SH.ex {B : Nat} {w : World} {p b : Nat} {l : IL} (h : SH B w p b l) : ∃ G, HistAt w p G b l ∧ HOk b l ∧ (∀ g ∈ G, B ≤ g) ∧ ∀ g ∈ G, g < w.heap.size := by
  obtain ⟨G, h1, h2, h3⟩ := h
  exact ⟨G, h1, h2, h3, fun g hg => (h1.own.mem g hg).2⟩

set_option maxRecDepth 20000 in
set_option maxHeartbeats 4000000 in
theorem HistOrder_any (b0 : Nat) (hb0 : b0 < 256) (v : Value) (ls : List Int) (v' : Value) (ms : List Int) (w : World) (hv : NRow .i64 w v ls) (hi : ∀ x ∈ ls, I64 x) (hv' : NRow .i64 w v' ms) (hi' : ∀ x ∈ ms, I64 x) :
    Calls Try.prog 9 #[.int .u8 b0, v, v'] w fun e w' => e = .returned (.bool true) ∧ Below w.heap.size w w' := by
  obtain ⟨i0, hi0, hz0, hz1, hz2⟩ : ∃ i, Try.prog.info? 2 = some i ∧ i.zero = some (.int .i64 0) ∧ i.size = 1 ∧ i.bytes = 8 := by
    have := infoI2
    cases h : Try.prog.info? 2 with
    | none => rw [h] at this; cases this
    | some i => rw [h] at this; simp at this; exact ⟨i, rfl, this.1, this.2.1, this.2.2⟩
  go_enter Try.func9, Try.ntmps9
  go_wp2_with fail
  refine (examples_any _).mono ?_
  rintro e w1 ⟨rfl, b1⟩
  have B1 := Lib.hid b1
  have HVL := Lib.hid hv
  have HVM := Lib.hid hv'
  clear b1
  obtain ⟨a, cp, rfl, hcap, hmax, _⟩ := hv.form
  obtain ⟨a', cp', rfl, hcap', hmax', _⟩ := hv'.form
  clear hv hv'
  obtain ⟨n, hn⟩ : ∃ n, n = ls.length := ⟨_, rfl⟩
  obtain ⟨n', hn'⟩ : ∃ n, n = ms.length := ⟨_, rfl⟩
  rw [← hn] at hcap HVL ⊢
  rw [← hn'] at hcap' HVM ⊢
  clear hn hn'
  obtain ⟨b, hb⟩ : ∃ b, b = b0 % 5 := ⟨_, rfl⟩
  have hb4 : b ≤ 4 := by omega
  have eb : (b0 : Int) % 5 = (b : Int) := by omega
  obtain ⟨k, hk⟩ : ∃ k, k = min n 40 := ⟨_, rfl⟩
  obtain ⟨k', hk'⟩ : ∃ k, k = min n' 40 := ⟨_, rfl⟩
  have L1 := Lib.hid (HVL.out.take k (by omega))
  have M1 := Lib.hid (HVM.out.take k' (by omega))
  have ek : (min (n : Int) 40).toNat = k := by omega
  have ek' : (min (n' : Int) 40).toNat = k' := by omega
  have hk40 : k ≤ 40 := by omega
  have hk40' : k' ≤ 40 := by omega
  obtain ⟨ll, hll⟩ : ∃ ll, ll = ls.take k := ⟨_, rfl⟩
  obtain ⟨mm, hmm⟩ : ∃ mm, mm = ms.take k' := ⟨_, rfl⟩
  have hIl : ∀ x ∈ ll, I64 x := fun x hx => hi x (List.mem_of_mem_take (hll ▸ hx))
  have hIm : ∀ x ∈ mm, I64 x := fun x hx => hi' x (List.mem_of_mem_take (hmm ▸ hx))
  rw [← hll] at L1
  rw [← hmm] at M1
  have hlen : ll.length = k := L1.out.cells.1
  have hlen' : mm.length = k' := M1.out.cells.1
  have HLEN := Lib.hid hlen
  have HLEN' := Lib.hid hlen'
  clear hb hk hk' hll hmm HVL HVM hlen hlen'
  obtain ⟨B, hB⟩ : ∃ B, B = w.heap.size := ⟨_, rfl⟩
  rw [← hB] at B1
  have HBw := Lib.hid hB
  have CL := Lib.hid (show ∀ (u : World), Below B w u → ∀ (i : Nat) (x : Int), ll[i]? = some x → ∃ ad, a = some ad ∧ u.cell? (ad.add i) = some (Value.int IntKind.i64 x) from fun u hu i x hx => by
    cases a with
    | none =>
      have := (L1.out.none rfl).1
      have := (List.getElem?_eq_some_iff.1 hx).1
      have := L1.out.cells.1
      omega
    | some ad =>
      have h := L1.out.cells.2 ad rfl i x hx
      rw [hB] at hu
      exact ⟨ad, rfl, (hu.cell (World.block_lt_of_cell? _ _ h)).trans h⟩)
  have CM := Lib.hid (show ∀ (u : World), Below B w u → ∀ (i : Nat) (x : Int), mm[i]? = some x → ∃ ad, a' = some ad ∧ u.cell? (ad.add i) = some (Value.int IntKind.i64 x) from fun u hu i x hx => by
    cases a' with
    | none =>
      have := (M1.out.none rfl).1
      have := (List.getElem?_eq_some_iff.1 hx).1
      have := M1.out.cells.1
      omega
    | some ad =>
      have h := M1.out.cells.2 ad rfl i x hx
      rw [hB] at hu
      exact ⟨ad, rfl, (hu.cell (World.block_lt_of_cell? _ _ h)).trans h⟩)
  clear hB
  go_wp2_with fail
  have EB := Lib.hid eb
  clear eb
  go_loopw [9, 10] (fun x z wr => ∃ (v : Value) (j : Nat), v = x ∧ z = .int .i64 ((j : Int) - 1) ∧ j ≤ k' ∧ Zs 2 .i64 B wr v ((mm.drop j).reverse) ∧ Below B w wr) (fun _ z _ => (intOf z + 1).toNat)
  case atStart => exact ⟨_, k', rfl, by go_num, Nat.le_refl _, by rw [List.drop_of_length_le (by rw [HLEN'.out]; exact Nat.le_refl _)]; exact Zs.nil _ _ _ _, B1.out⟩
  case round =>
    obtain ⟨v, j, rfl, rfl, hj, zz, bb⟩ := hrel
    have ZZ := Lib.hid zz
    have BB := Lib.hid bb
    clear zz bb
    rcases Nat.eq_zero_or_pos j with hj0 | hpos
    rotate_left
    · obtain ⟨j, rfl⟩ : ∃ i, j = i + 1 := ⟨j - 1, by omega⟩
      have ej : ((j + 1 : Nat) : Int) - 1 = (j : Int) := by omega
      rw [ej]
      have hj1 : 0 ≤ (j : Int) := by omega
      have hj2 : (j : Int) < k' := by omega
      obtain ⟨x, hx⟩ : ∃ x, mm[j]? = some x := ⟨_, List.getElem?_eq_getElem (by rw [HLEN'.out]; omega)⟩
      obtain ⟨ad, rfl, c0⟩ := CM.out _ BB.out j x hx
      have ER := Lib.hid (rev_drop mm j x hx)
      obtain ⟨xs, hxs⟩ : ∃ xs, xs = (mm.drop (j + 1)).reverse := ⟨_, rfl⟩
      have hxl : xs.length ≤ 80 := by rw [hxs]; simp; have h1 := HLEN.out; have h2 := HLEN'.out; omega
      rw [← hxs] at ZZ
      obtain ⟨q, hq⟩ : ∃ q, q = xs.length := ⟨_, rfl⟩
      rw [← hq] at hxl
      have HXS := Lib.hid hxs
      have HQ := Lib.hid hq
      clear hx ej hxs
      have OWN := Lib.hid (show (wr.alloc (.cells #[.int .i64 x] 2)).ownsRow B 2 1 v q (vz .i64 xs) by
        have := ZZ.out.mono ((Below.refl wr.heap.size wr).alloc (Nat.le_refl _) (.cells #[.int .i64 x] 2))
        unfold Zs at this
        rw [hq]
        exact this)
      clear hq
      have hBwr : B ≤ wr.heap.size := by have h1 := BB.out.size; have h2 := HBw.out; omega
      go_wp2_with (at_builtin; refine append_any _ rfl _ _ 22 rfl B 2 i0 (.int .i64 0) 1 8 Try.underlying22 hi0 hz0 hz1 hz2 rfl (by decide) _ q (vz .i64 xs) rfl OWN.out (some ⟨wr.heap.size, 0, none⟩) 1 1 [.int .i64 x] rfl ?c0 rfl ?c2 ?c3 ?c4 ?c5 ?c6 ?_)
      case c0 => intro h; cases h
      case c2 => intro ad h; cases h; exact cell_one_new _ _ _
      case c3 => intro u hu; simp at hu; subst hu; rfl
      case c4 => unfold maxLen; omega
      case c5 => omega
      case c6 => exact Nat.le_trans hBwr (by simp)
      intro v3 w3 o3 b3
      have B3 := Lib.hid (show Below B w w3 from ((BB.out.alloc hBwr _)).trans b3)
      have Z3 := Lib.hid (show Zs 2 .i64 B w3 v3 ((mm.drop j).reverse) by
        have e : (mm.drop j).reverse = xs ++ [x] := by rw [ER.out, HXS.out]
        rw [e]
        unfold Zs
        rw [List.length_append, ← HQ.out, vz_append]
        exact o3)
      clear o3 b3 c0 OWN
      go_wp2
      go_roundw
      case rel => exact ⟨v3, j, rfl, by go_num, by omega, Z3.out, B3.out⟩
      case measure => first | (simp [intOf]; done) | (simp [intOf]; omega)
    · subst hj0
      have hj1 : ¬ (0 : Int) ≤ (0 : Int) - 1 := by omega
      have ZA := Lib.hid (show Zs 2 .i64 B wr v (mm.reverse) from ZZ.out)
      have BA := BB
      clear ZZ BB hj
      go_wp2_with fail
      go_loopw [9, 11] (fun x z wr => ∃ (v : Value) (j : Nat), v = x ∧ z = .int .i64 ((j : Int) - 1) ∧ j ≤ k ∧ Zs 2 .i64 B wr v (mm.reverse ++ (ll.drop j).reverse) ∧ Below B w wr) (fun _ z _ => (intOf z + 1).toNat)
      case atStart => exact ⟨_, k, rfl, by go_num, Nat.le_refl _, by rw [List.drop_of_length_le (by rw [HLEN.out]; exact Nat.le_refl _)]; simpa using ZA.out, BA.out⟩
      case round =>
        obtain ⟨v, j, rfl, rfl, hj, zz, bb⟩ := hrel
        have ZZ := Lib.hid zz
        have BB := Lib.hid bb
        clear zz bb
        rcases Nat.eq_zero_or_pos j with hj0 | hpos
        rotate_left
        · obtain ⟨j, rfl⟩ : ∃ i, j = i + 1 := ⟨j - 1, by omega⟩
          have ej : ((j + 1 : Nat) : Int) - 1 = (j : Int) := by omega
          rw [ej]
          have hj1 : 0 ≤ (j : Int) := by omega
          have hj2 : (j : Int) < k := by omega
          obtain ⟨x, hx⟩ : ∃ x, ll[j]? = some x := ⟨_, List.getElem?_eq_getElem (by rw [HLEN.out]; omega)⟩
          obtain ⟨ad, rfl, c0⟩ := CL.out _ BB.out j x hx
          have ER := Lib.hid (rev_drop ll j x hx)
          obtain ⟨xs, hxs⟩ : ∃ xs, xs = mm.reverse ++ (ll.drop (j + 1)).reverse := ⟨_, rfl⟩
          have hxl : xs.length ≤ 80 := by rw [hxs]; simp; have h1 := HLEN.out; have h2 := HLEN'.out; omega
          rw [← hxs] at ZZ
          obtain ⟨q, hq⟩ : ∃ q, q = xs.length := ⟨_, rfl⟩
          rw [← hq] at hxl
          have HXS := Lib.hid hxs
          have HQ := Lib.hid hq
          clear hx ej hxs
          have OWN := Lib.hid (show (wr.alloc (.cells #[.int .i64 x] 2)).ownsRow B 2 1 v q (vz .i64 xs) by
            have := ZZ.out.mono ((Below.refl wr.heap.size wr).alloc (Nat.le_refl _) (.cells #[.int .i64 x] 2))
            unfold Zs at this
            rw [hq]
            exact this)
          clear hq
          have hBwr : B ≤ wr.heap.size := by have h1 := BB.out.size; have h2 := HBw.out; omega
          go_wp2_with (at_builtin; refine append_any _ rfl _ _ 22 rfl B 2 i0 (.int .i64 0) 1 8 Try.underlying22 hi0 hz0 hz1 hz2 rfl (by decide) _ q (vz .i64 xs) rfl OWN.out (some ⟨wr.heap.size, 0, none⟩) 1 1 [.int .i64 x] rfl ?c0 rfl ?c2 ?c3 ?c4 ?c5 ?c6 ?_)
          case c0 => intro h; cases h
          case c2 => intro ad h; cases h; exact cell_one_new _ _ _
          case c3 => intro u hu; simp at hu; subst hu; rfl
          case c4 => unfold maxLen; omega
          case c5 => omega
          case c6 => exact Nat.le_trans hBwr (by simp)
          intro v3 w3 o3 b3
          have B3 := Lib.hid (show Below B w w3 from ((BB.out.alloc hBwr _)).trans b3)
          have Z3 := Lib.hid (show Zs 2 .i64 B w3 v3 (mm.reverse ++ (ll.drop j).reverse) by
            have e : mm.reverse ++ (ll.drop j).reverse = xs ++ [x] := by rw [ER.out, HXS.out]; rw [List.append_assoc]
            rw [e]
            unfold Zs
            rw [List.length_append, ← HQ.out, vz_append]
            exact o3)
          clear o3 b3 c0 OWN
          go_wp2
          go_roundw
          case rel => exact ⟨v3, j, rfl, by go_num, by omega, Z3.out, B3.out⟩
          case measure => first | (simp [intOf]; done) | (simp [intOf]; omega)
        · subst hj0
          have hj1 : ¬ (0 : Int) ≤ (0 : Int) - 1 := by omega
          have ZB := Lib.hid (show Zs 2 .i64 B wr v (mm.reverse ++ ll.reverse) from ZZ.out)
          have BC := BB
          clear ZZ BB hj
          go_wp2_with fail
          have K := of_any b hb4 _ ll wr (L1.out.mono (by rw [← HBw.out]; exact BC.out)) (by rw [HLEN.out]; omega) hIl
          refine K.mono ?_
          rintro e w3 ⟨rfl, s3, b3⟩
          obtain ⟨p, hp⟩ : ∃ p, p = wr.heap.size := ⟨_, rfl⟩
          rw [← hp] at s3 b3 ⊢
          have hBp : B ≤ p := by have h1 := BC.out.size; have h2 := HBw.out; omega
          have S3 := Lib.hid s3
          have hp3 : p ≤ w3.heap.size := by have h := b3.size; omega
          have B3 := Lib.hid (show Below B w w3 from BC.out.trans (b3.mono hBp))
          have Z3 := Lib.hid (ZB.out.mono (show Below wr.heap.size wr w3 by rw [← hp]; exact b3))
          clear s3 b3 hp K
          go_wp2_with fail
          have K := of_any b hb4 _ mm w3 (M1.out.mono (by rw [← HBw.out]; exact B3.out)) (by rw [HLEN'.out]; omega) hIm
          refine K.mono ?_
          rintro e w4 ⟨rfl, s4, b4⟩
          obtain ⟨q, hq⟩ : ∃ q, q = w3.heap.size := ⟨_, rfl⟩
          rw [← hq] at s4 b4 ⊢
          have S4 := Lib.hid s4
          have hBq : B ≤ q := by omega
          have hq4 : q ≤ w4.heap.size := by have h := b4.size; omega
          have B4 := Lib.hid (bt B3.out (Nat.le_of_eq HBw.out) (show Below w3.heap.size w3 w4 by rw [← hq]; exact b4))
          have Z4 := Lib.hid (Z3.out.mono (show Below w3.heap.size w3 w4 by rw [← hq]; exact b4))
          obtain ⟨Gh, hh, ho, hG1, hG2⟩ := S3.out.ex
          have H4 := Lib.hid (hh.mono (show Below w3.heap.size w3 w4 by rw [← hq]; exact b4))
          have HO := Lib.hid ho
          have HG1 := Lib.hid (fun g (hg : g ∈ Gh) => Nat.le_trans hBp (hG1 g hg))
          have HG2 := Lib.hid (fun g (hg : g ∈ Gh) => (show g < q by rw [hq]; exact hG2 g hg))
          clear s4 b4 hq K hh ho hG1 hG2 S3
          go_wp2_with fail
          have K := of_any b hb4 _ (mm.reverse ++ ll.reverse) w4 (Zs_nrow Z4.out) (by simp; have h1 := HLEN.out; have h2 := HLEN'.out; omega) (fun x hx => by
            rcases List.mem_append.1 hx with hx | hx
            · exact hIm x (List.mem_reverse.1 hx)
            · exact hIl x (List.mem_reverse.1 hx))
          refine K.mono ?_
          rintro e w5 ⟨rfl, s5, b5⟩
          obtain ⟨r, hr⟩ : ∃ r, r = w4.heap.size := ⟨_, rfl⟩
          rw [← hr] at s5 b5 ⊢
          obtain ⟨Gg, hg, go, hgg1, hgg2⟩ := S4.out.ex
          have bb5 : Below w4.heap.size w4 w5 := by rw [← hr]; exact b5
          have H5 := Lib.hid (H4.out.mono bb5)
          have I5 := Lib.hid (hg.mono bb5)
          have IO := Lib.hid go
          have HGG1 := Lib.hid hgg1
          have HGG2 := Lib.hid (fun g (hg : g ∈ Gg) => (show g < r by rw [hr]; exact hgg2 g hg))
          have hr5 : r ≤ w5.heap.size := by have h := b5.size; omega
          have B5 := Lib.hid (bt B4.out (Nat.le_of_eq HBw.out) bb5)
          obtain ⟨Ga, ha, hao, hga1, hga2⟩ := s5.ex
          have A5 := Lib.hid ha
          have AO := Lib.hid hao
          have HGA1 := Lib.hid hga1
          have HGA2 := Lib.hid hga2
          have hqr : q ≤ r := by omega
          clear s5 b5 K hr bb5 hg go hgg1 hgg2 ha hao hga1 hga2 S4 H4 Z4 Z3 ZB
          go_wp2_with fail
          have KM := Merge_any H5.out I5.out HO.out IO.out (fun x h1 h2 => by have := HG2.out x h1; have := HGG1.out x h2; omega)
          have EM := merge_order' b ll mm (by have h1 := HLEN.out; have h2 := HLEN'.out; omega)
          rw [EM] at KM
          have HTG := Lib.hid (show total (ofL b mm) = k' by rw [total_ofL]; exact HLEN'.out)
          have HTA := Lib.hid (show total (ofL b (mm.reverse ++ ll.reverse)) = k' + k by rw [total_ofL]; simp; rw [HLEN.out, HLEN'.out])
          obtain ⟨L, hL⟩ : ∃ L, L = ofL b (mm.reverse ++ ll.reverse) := ⟨_, rfl⟩
          rw [← hL] at KM A5 AO HTA
          obtain ⟨lm, hlm⟩ : ∃ L, L = ofL b mm := ⟨_, rfl⟩
          rw [← hlm] at I5 IO HTG
          clear EM hL hlm
          refine KM.mono ?_
          rintro e w6 ⟨rfl, G', h6, t6⟩
          have hsz6 := t6.size
          have S6 := Lib.hid (show SH B w6 p b L from ⟨G', h6, AO.out, fun g hg => by
            rcases t6.foot g hg with h' | h'
            · exact HG1.out g h'
            · omega⟩)
          have SG6 := Lib.hid (show SH B w6 q b lm from ⟨Gg, I5.out.same (fun x hx => t6.chg.block x (by have := HGG2.out x hx; omega) (fun h' => by have := HG2.out x h'; have := HGG1.out x hx; omega)), IO.out, fun g hg => by have := HGG1.out g hg; omega⟩)
          have SA6 := Lib.hid (show SH B w6 r b L from ⟨Ga, A5.out.same (fun x hx => t6.chg.block x (HGA2.out x hx) (fun h' => by have := HG2.out x h'; have := HGA1.out x hx; omega)), AO.out, fun g hg => by have := HGA1.out g hg; omega⟩)
          have B6 := Lib.hid (bt' B5.out (t6.chg.below HG1.out (by omega)))
          clear h6 t6 H5 I5 A5 HG1 HG2 HGG1 HGG2 HGA1 HGA2 KM
          go_wp2_with fail
          refine (s_items S6.out).mono ?_
          rintro e w7 ⟨v7, rfl, G7, r7, g7, b7⟩
          obtain ⟨ba, cap, rfl, _⟩ := r7.form
          have S7 := Lib.hid (S6.out.mono b7)
          have SG7 := Lib.hid (SG6.out.mono b7)
          have SA7 := Lib.hid (SA6.out.mono b7)
          have B7 := Lib.hid (bt B6.out (Nat.le_of_eq HBw.out) b7)
          have R7 := Lib.hid r7
          obtain ⟨z, hz⟩ : ∃ z, z = L.length := ⟨_, rfl⟩
          rw [← hz] at R7 ⊢
          have HZ := Lib.hid hz
          have hz9 : z ≤ 2113 := by rw [hz]; exact AO.out.len
          clear b7 r7 g7 hz S6 SG6 SA6
          go_wp2_with fail
          go_loopw [16, 18] (fun x y wr => ∃ (i : Nat), x = .int .u64 (total (L.take i) : Nat) ∧ y = .int .i64 i ∧ i ≤ z ∧ Below w7.heap.size w7 wr) (fun _ y _ => z - (intOf y).toNat)
          case atStart => exact ⟨0, rfl, rfl, Nat.zero_le _, Below.refl _ _⟩
          case round =>
            obtain ⟨i, rfl, rfl, hi', bb⟩ := hrel
            have BB := Lib.hid bb
            have RR := Lib.hid (R7.out.same (Same.own bb R7.out.own))
            clear bb
            rcases Nat.lt_or_ge i z with hlt | hge
            · have hj1 : (i : Int) < z := by omega
              obtain ⟨x, hx⟩ : ∃ x, L[i]? = some x := ⟨_, List.getElem?_eq_getElem (by rw [← HZ.out]; exact hlt)⟩
              obtain ⟨g, off, cap', e1, _, _, _, hc⟩ := RR.out.there (by omega)
              cases e1
              have c0 := (hc _ _ (flat_get L i x hx).1).1
              have c1 := (hc _ _ (flat_get L i x hx).2).1
              rw [← Nat.add_assoc] at c1
              have hx1 : 1 ≤ x.2 := (AO.out.item x (List.mem_of_getElem? hx)).1
              have HST := Lib.hid (show total (L.take (i + 1)) = total (L.take i) + x.2 by
                rw [List.take_add_one, hx, total_append]
                simp [total])
              have hst : total (L.take i) + x.2 ≤ 80 := by
                rw [← HST.out]
                have h1 := total_append (L.take (i + 1)) (L.drop (i + 1))
                rw [List.take_append_drop] at h1
                have h2 := HTA.out
                omega
              obtain ⟨y, hy⟩ : ∃ y, y = total (L.take i) := ⟨_, rfl⟩
              rw [← hy] at hst HST ⊢
              have hlt' := Lib.hid hlt
              have t1 : decide ((x.2 : Int) = 0) = false := by simp; omega
              have t2 : ¬ (x.2 : Int) = 0 := by omega
              have t8 : ¬ x.2 = 0 := by omega
              have t9 : decide (x.2 = 0) = false := by simp; omega
              clear hlt hy
              rcases Nat.eq_zero_or_pos i with hi0 | hpos
              · subst hi0
                have t3 : decide ((0 : Int) < ((0 : Nat) : Int)) = false := by decide
                clear hc hx
                go_wp2_with fail
                refine wp_region_quiet (C := fun w' => Below wr.heap.size wr w') (by kernel_rfl) (by kernel_rfl) ((Below.refl _ _).drew) ?_
                repeat (
                  with_reducible refine wpQuiet_step (fun K hK => ?_)
                  go_simp
                  first
                    | (with_reducible refine hK _ ?_; clear hK K)
                    | (apply Exists.intro
                       refine ⟨fun v hv => ?_, hK _ ?_⟩
                       (first
                         | with_reducible rfl
                         | (have d0 := (hv.cell (World.block_lt_of_cell? _ _ c0)).trans c0
                            have d1 := (hv.cell (World.block_lt_of_cell? _ _ c1)).trans c1
                            go_simp
                            with_reducible rfl))
                       clear hK K))
                refine wpQuiet_nil ?_
                intro wf hk
                have BF := Lib.hid (BB.out.trans (hk.mono BB.out.size))
                clear hk c0 c1
                go_wp2
                go_roundw
                case rel => exact ⟨0 + 1, by rw [HST.out]; go_num, by go_num, hlt'.out, BF.out⟩
                case measure => have := hlt'.out; simp [intOf]; omega
              · obtain ⟨m, him⟩ : ∃ m, i = m + 1 := ⟨i - 1, by omega⟩
                obtain ⟨x', hx'⟩ : ∃ x, L[m]? = some x := ⟨_, List.getElem?_eq_getElem (by have := HZ.out; omega)⟩
                have c2 := (hc _ _ (flat_get L m x' hx').1).1
                have t3 : decide ((0 : Int) < (i : Int)) = true := decide_eq_true (by omega)
                have t10 : (0 : Int) < (i : Int) := by omega
                have t11 : (m : Int) < z := by omega
                have t4 : IntKind.i64.wrap ((i : Int) - 1) = (m : Int) := by
                  rw [show (i : Int) - 1 = (m : Int) by omega]; simp [IntKind.wrap, IntKind.signed, IntKind.bits]; omega
                have hlt2 : x'.1 < x.1 := by
                  have h1 := (List.getElem?_eq_some_iff.1 hx').1
                  have h2 := (List.getElem?_eq_some_iff.1 hx).1
                  have := List.pairwise_iff_getElem.1 AO.out.rise m i h1 h2 (by omega)
                  rw [Option.some.inj ((List.getElem?_eq_getElem h1).symm.trans hx'), Option.some.inj ((List.getElem?_eq_getElem h2).symm.trans hx)] at this
                  exact this
                have t6 : decide (x.1 ≤ x'.1) = false := by simp; omega
                have t7 : ¬ x.1 ≤ x'.1 := by omega
                have HIM := Lib.hid him
                clear hc hx hx' him
                go_wp2_with fail
                refine wp_region_quiet (C := fun w' => Below wr.heap.size wr w') (by kernel_rfl) (by kernel_rfl) ((Below.refl _ _).drew) ?_
                repeat (
                  with_reducible refine wpQuiet_step (fun K hK => ?_)
                  go_simp
                  first
                    | (with_reducible refine hK _ ?_; clear hK K)
                    | (apply Exists.intro
                       refine ⟨fun v hv => ?_, hK _ ?_⟩
                       (first
                         | with_reducible rfl
                         | (have d0 := (hv.cell (World.block_lt_of_cell? _ _ c0)).trans c0
                            have d1 := (hv.cell (World.block_lt_of_cell? _ _ c1)).trans c1
                            have d2 := (hv.cell (World.block_lt_of_cell? _ _ c2)).trans c2
                            go_simp
                            with_reducible rfl))
                       clear hK K))
                refine wpQuiet_nil ?_
                intro wf hk
                have BF := Lib.hid (BB.out.trans (hk.mono BB.out.size))
                clear hk c0 c1 c2
                go_wp2
                go_roundw
                case rel => exact ⟨i + 1, by rw [HST.out]; go_num, by go_num, hlt'.out, BF.out⟩
                case measure => have := hlt'.out; simp [intOf]; omega
            · have hj1 : ¬ (i : Int) < z := by omega
              have EG := Lib.hid (show total (L.take i) = k' + k by
                rw [List.take_of_length_le (by have := HZ.out; omega)]; exact HTA.out)
              rw [EG.out]
              have S8 := Lib.hid (S7.out.mono BB.out)
              have SG8 := Lib.hid (SG7.out.mono BB.out)
              have SA8 := Lib.hid (SA7.out.mono BB.out)
              have B8 := Lib.hid (bt B7.out (Nat.le_of_eq HBw.out) BB.out)
              clear hge S7 SG7 SA7
              obtain ⟨c, hc⟩ : ∃ c, c = (b + 1) % 5 := ⟨_, rfl⟩
              have hc4 : c ≤ 4 := by omega
              have hcb : ¬ c = b := by omega
              have ec : ((b : Int) + 1) % 5 = (c : Int) := by omega
              clear hc
              go_wp2_with fail
              obtain ⟨Gp, hp8, ho8, hG1, hG2⟩ := S8.out.ex
              have K := of_any c hc4 _ ll wr (L1.out.mono (by rw [← HBw.out]; exact B8.out)) (by rw [HLEN.out]; omega) hIl
              refine K.mono ?_
              rintro e w9 ⟨rfl, s9, b9⟩
              obtain ⟨s, hs⟩ : ∃ s, s = wr.heap.size := ⟨_, rfl⟩
              rw [← hs] at s9 b9 ⊢
              have bb9 : Below wr.heap.size wr w9 := by rw [← hs]; exact b9
              obtain ⟨Go', hg9, go9, hgo1, _⟩ := s9.ex
              have P9 := Lib.hid (hp8.mono bb9)
              have PO := Lib.hid ho8
              have O9 := Lib.hid hg9
              have OO := Lib.hid go9
              have HD := Lib.hid (show ∀ x ∈ Gp, x ∉ Go' from fun x h1 h2 => by have := hG2 x h1; have := hgo1 x h2; omega)
              have S9 := Lib.hid (S8.out.mono bb9)
              have SG9 := Lib.hid (SG8.out.mono bb9)
              have SA9 := Lib.hid (SA8.out.mono bb9)
              have B9 := Lib.hid (bt B8.out (Nat.le_of_eq HBw.out) bb9)
              have HG1 := Lib.hid hG1
              clear s9 b9 bb9 hs hp8 ho8 hg9 go9 hgo1 hG1 hG2 K S8 SG8 SA8
              go_wp2_with fail
              refine (s_put S9.out).mono ?_
              rintro e w10 ⟨rfl, b10⟩
              have P10 := Lib.hid (P9.out.mono b10)
              have O10 := Lib.hid (O9.out.mono b10)
              have S10 := Lib.hid (S9.out.mono b10)
              have SG10 := Lib.hid (SG9.out.mono b10)
              have SA10 := Lib.hid (SA9.out.mono b10)
              have B10 := Lib.hid (bt B9.out (Nat.le_of_eq HBw.out) b10)
              clear b10
              go_wp2_with fail
              refine (s_put SA10.out).mono ?_
              rintro e w11 ⟨rfl, b11⟩
              have P11 := Lib.hid (P10.out.mono b11)
              have O11 := Lib.hid (O10.out.mono b11)
              have S11 := Lib.hid (S10.out.mono b11)
              have SG11 := Lib.hid (SG10.out.mono b11)
              have B11 := Lib.hid (bt B10.out (Nat.le_of_eq HBw.out) b11)
              clear b11
              have ekk : ((k' + k : Nat) : Int) = (k : Int) + (k' : Int) := by omega
              rw [show (k' : Int) + (k : Int) = (k : Int) + (k' : Int) from Int.add_comm _ _]
              go_wp2_with fail
              have KC := s_count S11.out
              rw [HTA.out, ekk] at KC
              refine KC.mono ?_
              rintro e w12 ⟨rfl, b12⟩
              have P12 := Lib.hid (P11.out.mono b12)
              have O12 := Lib.hid (O11.out.mono b12)
              have SG12 := Lib.hid (SG11.out.mono b12)
              have B12 := Lib.hid (bt B11.out (Nat.le_of_eq HBw.out) b12)
              clear b12 KC
              go_wp2_with fail
              have KC := s_count SG12.out
              rw [HTG.out] at KC
              refine KC.mono ?_
              rintro e w13 ⟨rfl, b13⟩
              have P13 := Lib.hid (P12.out.mono b13)
              have O13 := Lib.hid (O12.out.mono b13)
              have B13 := Lib.hid (bt B12.out (Nat.le_of_eq HBw.out) b13)
              clear b13 KC
              go_wp2_with fail
              have KM := Merge_any P13.out O13.out PO.out OO.out HD.out
              have EM : mergeL b L c (ofL c ll) = (L, 1) := by unfold mergeL; rw [if_pos hcb]
              rw [EM] at KM
              refine KM.mono ?_
              rintro e w14 ⟨rfl, G14, _, t14⟩
              have B14 := Lib.hid (bt' B13.out (t14.chg.below HG1.out (by have h1 := B13.out.size; have h2 := HBw.out; omega)))
              clear t14 KM
              go_wp2
              go_ret
              exact ⟨rfl, by rw [← HBw.out]; exact B14.out⟩
theorem HistOrder_row {b0 : Int} {v v' : Value} {ns ms : List Int} {w : World} (h0 : (Lit.int .u8 b0).wf = true) (hv : NRow .i64 w v ns) (hi : ∀ x ∈ ns, (Lit.int .i64 x).wf = true) (hv' : NRow .i64 w v' ms) (hi' : ∀ x ∈ ms, (Lit.int .i64 x).wf = true) :
    Calls Try.prog 9 #[.int .u8 b0, v, v'] w fun e w' => e = .returned (.bool true) ∧ Below w.heap.size w w' := by
  obtain ⟨b, rfl, hb⟩ := u8_wf h0
  exact HistOrder_any b hb v ns v' ms w hv (fun x hx => i64_wf (hi x hx)) hv' (fun x hx => i64_wf (hi' x hx))
end Go.Proofs.Ytmhljblfbnjopaa.HHist
