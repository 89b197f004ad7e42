/- Several texts in one: The reference's histogram, walked: the object; New, Count. The reference's histogram, walked: Rank, Number. The reference's histogram, walked: more. Conditions: the buckets rise, sizes. The reference's histogram, walked: Bytes. The reference's buckets, walked: Most. The reference's buckets, walked: Bounds. The reference's buckets, walked: Bounds. The reference's histogram, walked: Add, Merge, Quantile. Conditions: what a histogram holds. The reference's histogram, walked: Put. Conditions: what a histogram holds. The reference's histogram, walked: Get. Conditions: sizes. -/
import Derived.Test.YtgafnilcmhjpcaaHistUse
import Derived.Test.YtgafnilcmhjpcaaApp
import Derived.Test.YtgafnilcmhjpcaaRefBucket
import Derived.Test.YtgafnilcmhjpcaaHistBackP
namespace Go.Proofs.Ytgafnilcmhjpcaa.HHist
set_option linter.unusedVariables false
open Go.RowKit Go.Proofs.Ytgafnilcmhjpcaa.HMem Go.Proofs.Ytgafnilcmhjpcaa.HBucket
open Go.Proofs.Ytgafnilcmhjpcaa.Print (I64)

/-- The reference's histogram: its bits, its items. -/
structure RHistAt (w : World) (p : Nat) (G : List Nat) (bits : Int) (l : IL) : Prop where
  ex : ∃ v R, G = p :: R ∧ p ∉ R ∧ w.heap[p]? = some (.cells #[.int .i64 bits, v] 109 (0, 0)) ∧ Row 111 2 w v l.length (flat l) R
section
variable {w w' : World} {p : Nat} {G : List Nat} {bits : Int} {l : IL}
theorem RHistAt.same (h : RHistAt w p G bits l) (s : Same G w w') : RHistAt w' p G bits l := by
  obtain ⟨v, R, rfl, h1, h2, h3⟩ := h.ex
  exact ⟨v, R, rfl, h1, by rw [s p (by simp)]; exact h2, h3.same (s.sub fun k hk => by simp [hk])⟩
theorem RHistAt.own (h : RHistAt w p G bits l) : Own 0 w G := by
  obtain ⟨v, R, rfl, h1, h2, h3⟩ := h.ex
  exact ⟨List.nodup_cons.2 ⟨h1, h3.own.nodup⟩, fun g hg => by
    rcases List.mem_cons.1 hg with rfl | hg
    · exact ⟨Nat.zero_le _, heap_lt h2⟩
    · exact h3.own.mem g hg⟩
theorem RHistAt.mono (h : RHistAt w p G bits l) (b : Below w.heap.size w w') : RHistAt w' p G bits l := h.same (Same.own b h.own)
theorem RHistAt.cells (h : RHistAt w p G bits l) : w.cell? ⟨p, 0, none⟩ = some (.int .i64 bits) ∧
    ∃ v R, G = p :: R ∧ p ∉ R ∧ w.cell? ⟨p, 1, none⟩ = some v ∧ Row 111 2 w v l.length (flat l) R := by
  obtain ⟨v, R, rfl, h1, h2, h3⟩ := h.ex
  exact ⟨by simp [World.cell?, h2], v, R, rfl, h1, by simp [World.cell?, h2], h3⟩
end
theorem rNew_yes (b : Nat) (w : World) (hb : b ≤ 4) :
    Calls Try.prog 39 #[.int .i64 b] w fun e w' => e = .returned (.pointer (some ⟨w.heap.size, 0, none⟩)) ∧ (RHistAt w' w.heap.size [w.heap.size] b [] ∧ Below w.heap.size w w') := by
  have h1 : ¬ (b : Int) < 0 := by omega
  have h2 : decide ((4 : Int) < (b : Int)) = false := by simp; omega
  go_enter Try.func39, Try.ntmps39
  go_wp2
  go_ret
  refine ⟨rfl, ⟨_, [], rfl, by simp, heap_alloc_new w _, Row.nil _ _ _⟩, (Below.refl _ _).alloc (Nat.le_refl _) _⟩
theorem rNew_no (b : Int) (w : World) (hb : b < 0 ∨ 4 < b) :
    Calls Try.prog 39 #[.int .i64 b] w fun e w' => e = .returned (.pointer none) ∧ w = w' := by
  rcases hb with hb | hb
  · go_enter Try.func39, Try.ntmps39
    go_wp2
    go_ret
    exact ⟨rfl, rfl⟩
  · have h1 : ¬ b < 0 := by omega
    have h2 : decide ((4 : Int) < b) = true := by simp; omega
    go_enter Try.func39, Try.ntmps39
    go_wp2
    go_ret
    exact ⟨rfl, rfl⟩
theorem total_step (l : IL) (j : Nat) (x : Int × Nat) (hx : l[j]? = some x) : total (l.take (j + 1)) = total (l.take j) + x.2 := by
  rw [List.take_add_one, hx, total_append]
  simp [total]
theorem total_take_le (l : IL) (j : Nat) : total (l.take j) ≤ total l := by
  have h1 := total_append (l.take j) (l.drop j)
  rw [List.take_append_drop] at h1
  omega
theorem rCount_any {w : World} {p : Nat} {G : List Nat} {b : Int} {l : IL} (h : RHistAt w p G b l) (hl : l.length ≤ 4294967296) (ht : total l < 18446744073709551616) :
    Calls Try.prog 41 #[.pointer (some ⟨p, 0, none⟩)] w fun e w' => e = .returned (.int .u64 (total l : Nat)) ∧ w = w' := by
  obtain ⟨c0, v, R, _, _, c1, hr⟩ := h.cells
  clear h
  obtain ⟨ba, cap, rfl, _⟩ := hr.form
  obtain ⟨n, hn⟩ : ∃ n, n = l.length := ⟨_, rfl⟩
  rw [← hn] at hr hl c1
  have HN := Lib.hid hn
  have RR := Lib.hid hr
  have HT := Lib.hid ht
  clear hr hn ht
  go_enter Try.func41, Try.ntmps41
  go_wp2_with fail
  go_loopw [3, 4] (fun x y wr => ∃ j : Nat, x = .int .u64 (total (l.take j) : Nat) ∧ y = .int .i64 j ∧ j ≤ n ∧ w = wr) (fun _ y _ => n - (intOf y).toNat)
  case atStart => exact ⟨0, rfl, rfl, Nat.zero_le _, rfl⟩
  case round =>
    obtain ⟨j, rfl, rfl, hj, rfl⟩ := hrel
    rcases Nat.lt_or_ge j n with hlt | hge
    · have hj1 : (j : Int) < n := by omega
      obtain ⟨x, hx⟩ : ∃ x, l[j]? = some x := ⟨_, List.getElem?_eq_getElem (by rw [← HN.out]; exact hlt)⟩
      obtain ⟨g, off, cap', e1, _, _, _, hc⟩ := RR.out.there (by omega)
      cases e1
      have d1 := (hc _ _ (flat_get l j x hx).2).1
      rw [← Nat.add_assoc] at d1
      have HST := Lib.hid (total_step l j x hx)
      have hst : total (l.take j) + x.2 < 18446744073709551616 := by
        rw [← HST.out]; have := total_take_le l (j + 1); have := HT.out; omega
      obtain ⟨y, hy⟩ : ∃ y, y = total (l.take j) := ⟨_, rfl⟩
      rw [← hy] at hst HST ⊢
      have hst' : (y : Int) + (x.2 : Int) < 18446744073709551616 := by omega
      have hlt' := Lib.hid hlt
      clear hc hx hlt hy
      go_wp2
      go_roundw
      case rel => exact ⟨j + 1, by rw [HST.out]; go_num, by go_num, hlt'.out, by first | rfl | trivial⟩
      case measure => have := hlt'.out; simp [intOf]; omega
    · have hj1 : ¬ (j : Int) < n := by omega
      have EJ := Lib.hid (show l.take j = l from List.take_of_length_le (by have := HN.out; omega))
      clear hge
      go_wp2
      go_ret
      exact ⟨by first | rfl | (simp only [EJ.out]; rfl), rfl⟩
end Go.Proofs.Ytgafnilcmhjpcaa.HHist
namespace Go.Proofs.Ytgafnilcmhjpcaa.HHist
set_option linter.unusedVariables false
open Go.RowKit Go.Proofs.Ytgafnilcmhjpcaa.HMem Go.Proofs.Ytgafnilcmhjpcaa.HBucket
open Go.Proofs.Ytgafnilcmhjpcaa.Print (I64)

set_option maxHeartbeats 1000000 in
set_option maxRecDepth 20000 in
theorem rNumber_any (s : ByteArray) (w : World) (hs : s.size ≤ 8) :
    Calls Try.prog 49 #[.string s] w fun e w' => e = .returned (.int .u64 (num s.data.toList : Nat)) ∧ w = w' := by
  go_enter Try.func49, Try.ntmps49
  go_wp2
  go_loop [3, 4] (fun n x => ∃ k : Nat, k ≤ s.size ∧ x = .int .i64 k ∧ n = .int .u64 (num (s.data.toList.take k) : Nat)) (fun _ x => s.size - (intOf x).toNat)
  case atStart => exact ⟨0, Nat.zero_le _, rfl, rfl⟩
  case round =>
    obtain ⟨k, hk, rfl, rfl⟩ := hrel
    rcases Nat.lt_or_ge k s.size with hlt | hge
    · have hk1 : (k : Int) < s.size := by omega
      have hn : num (s.data.toList.take k) < 72057594037927936 := by
        have := num_lt (s.data.toList.take k)
        have h2 : (s.data.toList.take k).length ≤ 7 := by simp; omega
        exact Nat.lt_of_lt_of_le this (Nat.le_trans (Nat.pow_le_pow_right (by decide) h2) (by decide))
      have E := or_step (num (s.data.toList.take k)) s[k].toNat hn (s[k].toNat_lt)
      have EN : num (s.data.toList.take (k + 1)) = num (s.data.toList.take k) * 256 + s[k].toNat := by rw [take_byte s k hlt, num_snoc]
      rw [← EN] at E
      obtain ⟨m, hm⟩ : ∃ m, m = num (s.data.toList.take k) := ⟨_, rfl⟩
      obtain ⟨m', hm'⟩ : ∃ m', m' = num (s.data.toList.take (k + 1)) := ⟨_, rfl⟩
      rw [← hm, ← hm'] at E
      rw [← hm]
      have HM := Lib.hid hm'
      clear hm hm' EN hn
      go_wp2
      go_round
      case rel => exact ⟨k + 1, by omega, by go_num, by rw [← HM.out]⟩
      case measure => simp [intOf]; omega
    · have hk1 : ¬ (k : Int) < s.size := by omega
      have E := Lib.hid (show s.data.toList.take k = s.data.toList from List.take_of_length_le (by simpa using hge))
      rw [E.out]
      clear hge
      go_wp2
      go_ret
      exact ⟨rfl, rfl⟩
theorem rankZ_some {l : IL} {r : Nat} {a : Int} (h : ¬ r = 0) (e : rankL l r = some a) : rankZ l r = (a, true) := by
  unfold rankZ; rw [if_neg h, e]
theorem rankZ_none {l : IL} {r : Nat} (h : ¬ r = 0) (e : rankL l r = none) : rankZ l r = (0, false) := by
  unfold rankZ; rw [if_neg h, e]
end Go.Proofs.Ytgafnilcmhjpcaa.HHist
namespace Go.Proofs.Ytgafnilcmhjpcaa.HHist
set_option linter.unusedVariables false
open Go.RowKit Go.Proofs.Ytgafnilcmhjpcaa.HMem Go.Proofs.Ytgafnilcmhjpcaa.HApp

theorem infoRI : (Try.prog.info? 111).map (fun i => (i.zero, i.size, i.bytes)) = some (some (.agg #[.int .i64 0, .int .u64 0]), 2, 16) := by kernel_rfl
theorem infoRI2 : ∃ i, Try.prog.info? 111 = some i ∧ i.zero = some (.agg #[.int .i64 0, .int .u64 0]) ∧ i.size = 2 ∧ i.bytes = 16 := by
  have h := infoRI
  cases hi : Try.prog.info? 111 with
  | none => rw [hi] at h; cases h
  | some i =>
    rw [hi] at h
    injection h with h
    injection h with h1 h2
    injection h2 with h2 h3
    exact ⟨i, rfl, h1, h2, h3⟩
theorem pos_stop (l : IL) (a : Int) (hs : Rise l) (x : Int × Nat) (hx : l[pos l a]? = some x) : ¬ x.1 < a := fun h => by
  have := (pos_lt l a hs _ x hx).1 h
  omega
/-- The cells of a row, read through its slice. -/
theorem row_cells {E : TypeId} {k : Nat} {w : World} {a : Option Addr} {n c : Nat} {xs : List Value} {G : List Nat} (h : Row E k w (.slice a n c) n xs G) :
    (a = none → n = 0 ∧ c = 0) ∧ ∀ u, Below w.heap.size w u → ∀ ad, a = some ad → ∀ j y, xs[j]? = some y → u.cell? (ad.add j) = some y := by
  rcases h.2 with ⟨e, h0, _⟩ | ⟨g, off, cap, cur, _, e, _⟩
  · cases e
    exact ⟨fun _ => ⟨rfl, rfl⟩, fun u hu ad e => (by cases e)⟩
  · cases e
    refine ⟨fun e => (by cases e), fun u hu ad e j y hy => ?_⟩
    cases e
    have hj := (List.getElem?_eq_some_iff.1 hy).1
    have hn : 0 < n := by
      rcases Nat.eq_zero_or_pos n with e | e
      · have := h.1; rw [e] at this; omega
      · exact e
    obtain ⟨g', off', c', e1, _, _, _, hc⟩ := h.there hn
    cases e1
    have h1 := (hc j y hy).1
    have h2 := (hu.cell (World.block_lt_of_cell? _ _ h1)).trans h1
    have e2 : (⟨g, off, none⟩ : Addr).add j = ⟨g, off + j, none⟩ := by simp [Addr.add]
    rw [e2]; exact h2
theorem cell_of {w : World} {p : Nat} {cs : Array Value} {t : TypeId} (h : w.heap[p]? = some (.cells cs t (0, 0))) (i : Nat) (v : Value) (hi : cs[i]? = some v) : w.cell? ⟨p, i, none⟩ = some v := by simp [World.cell?, h, hi]
theorem two_new (w : World) (x y : Value) (t : TypeId) (j : Nat) (u : Value) (h : [x, y][j]? = some u) : (w.alloc (.cells #[x, y] t)).cell? ((⟨w.heap.size, 0, none⟩ : Addr).add j) = some u := by
  have e : (⟨w.heap.size, 0, none⟩ : Addr).add j = ⟨w.heap.size, j, none⟩ := by simp [Addr.add]; omega
  rw [e, new_cell, ← h]
  simp
set_option maxHeartbeats 8000000 in
set_option maxRecDepth 20000 in
theorem rMore_any (w : World) (p : Nat) (G : List Nat) (bits : Int) (l : IL) (a : Int) (m : Nat) (h : RHistAt w p G bits l) (hs : Rise l) (hl : l.length ≤ 4294967295) (hm : total l + m < 18446744073709551616) :
    Calls Try.prog 67 #[.pointer (some ⟨p, 0, none⟩), .agg #[.int .i64 a, .int .u64 m]] w fun e w' => e = .returned (.tuple #[]) ∧ ∃ G', RHistAt w' p G' bits (moreL l a m) ∧ Turn G G' w w' := by
  obtain ⟨i0, hi0, hz0, hz1, hz2⟩ := infoRI2
  have hown := h.own
  obtain ⟨v, R, rfl, hpR, hcp, hrow⟩ := h.ex
  have c1 : w.cell? ⟨p, 1, none⟩ = some v := by simp [World.cell?, hcp]
  have HO := Lib.hid hown
  have HCP := Lib.hid hcp
  have HR := Lib.hid hrow
  have HS := Lib.hid hs
  have HL := Lib.hid hl
  have HM := Lib.hid hm
  have hpl := heap_lt hcp
  obtain ⟨av, cp, rfl, hnc, hcm⟩ := hrow.form
  clear hown hcp hrow hs hl h hm
  go_enter Try.func67, Try.ntmps67
  go_wp2_with fail
  obtain ⟨X, hX⟩ : ∃ X, X = w.heap.size := ⟨_, rfl⟩
  obtain ⟨W, hW⟩ : ∃ W, W = w.alloc (.cells #[.int .i64 a, .int .u64 m] 111) := ⟨_, rfl⟩
  have BW := Lib.hid (show Below w.heap.size w W by rw [hW]; exact (Below.refl _ _).alloc (Nat.le_refl _) _)
  have x0 : W.cell? ⟨X, 0, none⟩ = some (.int .i64 a) := by rw [hW, hX, new_cell]; rfl
  have x1 : W.cell? ⟨X, 1, none⟩ = some (.int .u64 m) := by rw [hW, hX, new_cell]; rfl
  rw [← hW, ← hX]
  replace c1 := (BW.out.cell (World.block_lt_of_cell? _ _ c1)).trans c1
  have HX := Lib.hid hX
  have HXW := Lib.hid (World.block_lt_of_cell? _ _ x0)
  clear hW hX hpl
  obtain ⟨q, hq⟩ : ∃ q, q = pos l a := ⟨_, rfl⟩
  have hqn := pos_le l a
  rw [← hq] at hqn
  have HQ := Lib.hid hq
  have RW := Lib.hid (HR.out.same (Same.own BW.out HR.out.own))
  obtain ⟨n, hn⟩ : ∃ n, n = l.length := ⟨_, rfl⟩
  rw [← hn] at RW hqn c1
  have HN := Lib.hid hn
  have hn32 : n ≤ 4294967295 := by rw [hn]; exact HL.out
  clear hq hn
  go_loopw [4] (fun x wr => ∃ j : Nat, x = .int .i64 j ∧ j ≤ q ∧ Below W.heap.size W wr) (fun x _ => q - (intOf x).toNat)
  case atStart => exact ⟨0, rfl, Nat.zero_le _, Below.refl _ _⟩
  case round =>
    obtain ⟨j, rfl, hjq, bb⟩ := hrel
    have BB := Lib.hid bb
    have RB := Lib.hid (RW.out.same (Same.own bb RW.out.own))
    replace c1 := (BB.out.cell (World.block_lt_of_cell? _ _ c1)).trans c1
    replace x0 := (BB.out.cell (World.block_lt_of_cell? _ _ x0)).trans x0
    replace x1 := (BB.out.cell (World.block_lt_of_cell? _ _ x1)).trans x1
    clear bb
    rcases Nat.lt_or_ge j q with hlt | hge
    · have q1 : (j : Int) < n := by omega
      have q2 : decide ((j : Int) < n) = true := decide_eq_true q1
      obtain ⟨x, hx⟩ : ∃ x, l[j]? = some x := ⟨_, List.getElem?_eq_getElem (by rw [← HN.out]; omega)⟩
      have hxa := (pos_lt l a HS.out j x hx).2 (by rw [← HQ.out]; exact hlt)
      have q3 : decide (x.1 < a) = true := decide_eq_true hxa
      obtain ⟨g, off, cap', e1, _, _, _, hc⟩ := RB.out.there (by omega)
      cases e1
      have y0 := (hc _ _ (flat_get l j x hx).1).1
      have hlt' := Lib.hid hlt
      clear hc hx hlt hxa
      go_wp2_with fail
      refine wp_region_quiet (C := fun w' => Below wr.heap.size wr w') (by kernel_rfl) (by kernel_rfl) ((Below.refl _ _).drew) ?_
      repeat (
        with_reducible refine wpQuiet_step (fun K hK => ?_)
        go_simp
        first
          | (with_reducible refine hK _ ?_; clear hK K)
          | (refine hK _ ?_; clear hK K)
          | (apply Exists.intro
             refine ⟨fun v hv => ?_, hK _ ?_⟩
             (first
               | with_reducible rfl
               | (have d0 := (hv.cell (World.block_lt_of_cell? _ _ c1)).trans c1
                  have d1 := (hv.cell (World.block_lt_of_cell? _ _ x0)).trans x0
                  have d2 := (hv.cell (World.block_lt_of_cell? _ _ y0)).trans y0
                  go_simp
                  with_reducible rfl))
             clear hK K))
      refine wpQuiet_nil ?_
      intro wf hk
      have BF := Lib.hid (BB.out.trans (hk.mono BB.out.size))
      clear hk c1 x0 x1 y0
      go_wp2
      go_roundw
      case rel => exact ⟨j + 1, by go_num, hlt'.out, BF.out⟩
      case measure => have := hlt'.out; simp [intOf]; omega
    · obtain rfl : q = j := by omega
      clear hge hjq
      by_cases ht : ∃ x, l[q]? = some x ∧ x.1 = a
      · obtain ⟨x, hx, hxa⟩ := ht
        have hqn2 : q < n := by rw [HN.out]; exact (List.getElem?_eq_some_iff.1 hx).1
        have q1 : (q : Int) < n := by omega
        have q2 : decide ((q : Int) < n) = true := decide_eq_true q1
        obtain ⟨g, off, cap', e1, rfl, _, _, hc⟩ := RB.out.there (by omega)
        cases e1
        have y0 := (hc _ _ (flat_get l q x hx).1).1
        have y1 := (hc _ _ (flat_get l q x hx).2).1
        rw [hxa] at y0
        rw [← Nat.add_assoc] at y1
        have HX2 := Lib.hid hx
        have HXA := Lib.hid hxa
        have hxm := many_le l x (List.mem_of_getElem? hx)
        have s1 : IntKind.u64.wrap ((x.2 : Int) + (m : Int)) = (x.2 : Int) + (m : Int) := u64_in _ (by omega) (by have := HM.out; omega)
        have HQN := Lib.hid hqn2
        clear hc hx hxa hqn2 hxm
        go_wp2_with fail
        refine wp_region_quiet (C := fun w' => Below wr.heap.size wr w') (by kernel_rfl) (by kernel_rfl) ((Below.refl _ _).drew) ?_
        repeat (
          with_reducible refine wpQuiet_step (fun K hK => ?_)
          go_simp
          first
            | (with_reducible refine hK _ ?_; clear hK K)
            | (refine hK _ ?_; clear hK K)
            | (apply Exists.intro
               refine ⟨fun v hv => ?_, hK _ ?_⟩
               (first
                 | with_reducible rfl
                 | (have d0 := (hv.cell (World.block_lt_of_cell? _ _ c1)).trans c1
                    have d1 := (hv.cell (World.block_lt_of_cell? _ _ x0)).trans x0
                    have d2 := (hv.cell (World.block_lt_of_cell? _ _ y0)).trans y0
                    go_simp
                    with_reducible rfl))
               clear hK K))
        refine wpQuiet_nil ?_
        intro wf hk
        replace c1 := (hk.cell (World.block_lt_of_cell? _ _ c1)).trans c1
        replace x0 := (hk.cell (World.block_lt_of_cell? _ _ x0)).trans x0
        replace x1 := (hk.cell (World.block_lt_of_cell? _ _ x1)).trans x1
        replace y0 := (hk.cell (World.block_lt_of_cell? _ _ y0)).trans y0
        replace y1 := (hk.cell (World.block_lt_of_cell? _ _ y1)).trans y1
        go_wp2_with fail
        have HK := Lib.hid hk
        clear hk
        refine wp_region_quiet (C := fun w' => Below wf.heap.size wf w') (by kernel_rfl) (by kernel_rfl) ((Below.refl _ _).drew) ?_
        repeat (
          with_reducible refine wpQuiet_step (fun K hK => ?_)
          go_simp
          first
            | (with_reducible refine hK _ ?_; clear hK K)
            | (refine hK _ ?_; clear hK K)
            | (apply Exists.intro
               refine ⟨fun v hv => ?_, hK _ ?_⟩
               (first
                 | with_reducible rfl
                 | (have d0 := (hv.cell (World.block_lt_of_cell? _ _ c1)).trans c1
                    have d1 := (hv.cell (World.block_lt_of_cell? _ _ x0)).trans x0
                    have d2 := (hv.cell (World.block_lt_of_cell? _ _ y0)).trans y0
                    go_simp
                    with_reducible rfl))
               clear hK K))
        refine wpQuiet_nil ?_
        intro wg hg
        replace c1 := (hg.cell (World.block_lt_of_cell? _ _ c1)).trans c1
        replace x0 := (hg.cell (World.block_lt_of_cell? _ _ x0)).trans x0
        replace x1 := (hg.cell (World.block_lt_of_cell? _ _ x1)).trans x1
        replace y0 := (hg.cell (World.block_lt_of_cell? _ _ y0)).trans y0
        replace y1 := (hg.cell (World.block_lt_of_cell? _ _ y1)).trans y1
        go_wp2_with fail
        have BG := Lib.hid ((BB.out.trans (HK.out.mono BB.out.size)).trans (hg.mono (Nat.le_trans BB.out.size HK.out.size)))
        have RG := Lib.hid (RW.out.same (Same.own BG.out RW.out.own))
        have BWG := Lib.hid (BW.out.trans (BG.out.mono BW.out.size))
        obtain ⟨g', off', cap'', e1, _, _, _, hc2⟩ := RG.out.there (by have := HQN.out; omega)
        cases e1
        have f1 := (hc2 _ _ (flat_get l q x HX2.out).2).2
        rw [← Nat.add_assoc] at f1
        clear hc2 hg
        go_wp2_with fail
        go_region
        go_wp2_with fail
        (try simp only [Exit.inBlock, Exit.then])
        refine bodyPost_ret (results_none rfl _ _ _) rfl ?_
        obtain ⟨M, hM⟩ : ∃ M, M = moreL l a m := ⟨_, rfl⟩
        have EM : M = l.set q (x.1, x.2 + m) := by
          rw [hM, HXA.out, HQ.out]
          exact moreL_there l a m HS.out x (by rw [← HQ.out]; exact HX2.out) HXA.out
        have hgp : p ≠ g := fun e => hpR (by simp [e])
        rw [← hM]
        refine ⟨rfl, [p, g], ⟨_, [g], rfl, hpR, ((Below.heap_setCell wg ⟨g, off + q * 2 + 1, none⟩ _ p hgp).trans ((BWG.out.block p (heap_lt HCP.out)).trans HCP.out)), ?_⟩, ((Turn.of BWG.out).trans (Turn.set (b := g) (G := [p, g]) (by simp) _ _)).drew⟩
        have h1 := RG.out.setCell rfl (q * 2 + 1) (by have := HQN.out; omega) (.int .u64 ((x.2 + m : Nat) : Int))
        rw [flat_set l q x (x.2 + m) HX2.out, ← EM, ← Nat.add_assoc] at h1
        rw [EM, List.length_set, ← HN.out, ← EM]
        exact h1
      · have hne : ∀ x, l[pos l a]? = some x → x.1 ≠ a := fun x hx e => ht ⟨x, by rw [HQ.out]; exact hx, e⟩
        have EQ := Lib.hid (show moreL l a m = l.take q ++ ((a, m) :: l.drop q) by rw [HQ.out]; exact moreL_not l a m hne)
        have HNE := Lib.hid hne
        clear ht hne
        have hq0 : (0 : Int) ≤ (q : Int) := by omega
        have hqi : (q : Int) ≤ (n : Int) := by omega
        have hqc : (q : Int) ≤ (cp : Int) := by have := HN.out; omega
        have hni : (n : Int) ≤ (cp : Int) := by have := HN.out; omega
        rcases Nat.lt_or_ge q n with hqn2 | hqn2
        focus
          have q1 : (q : Int) < n := by omega
          have q2 : decide ((q : Int) < n) = true := decide_eq_true q1
          obtain ⟨x, hx⟩ : ∃ x, l[q]? = some x := ⟨_, List.getElem?_eq_getElem (by rw [← HN.out]; omega)⟩
          have q3 : decide (x.1 < a) = false := decide_eq_false (pos_stop l a HS.out x (by rw [← HQ.out]; exact hx))
          have q4 : (x.1 == a) = false := by simpa using HNE.out x (by rw [← HQ.out]; exact hx)
          obtain ⟨g, off, cap', e1, _, _, _, hc⟩ := RB.out.there (by omega)
          injection e1 with e1 _ e2
          subst e2
          have E1 := Lib.hid e1
          rw [e1] at c1
          clear e1
          have y0 := (hc _ _ (flat_get l q x hx).1).1
          clear hc hx hqn2
          go_wp2_with fail
          refine wp_region_quiet (C := fun w' => Below wr.heap.size wr w') (by kernel_rfl) (by kernel_rfl) ((Below.refl _ _).drew) ?_
          repeat (
            with_reducible refine wpQuiet_step (fun K hK => ?_)
            go_simp
            first
              | (with_reducible refine hK _ ?_; clear hK K)
              | (refine hK _ ?_; clear hK K)
              | (apply Exists.intro
                 refine ⟨fun v hv => ?_, hK _ ?_⟩
                 (first
                   | with_reducible rfl
                   | (have d0 := (hv.cell (World.block_lt_of_cell? _ _ c1)).trans c1
                      have d1 := (hv.cell (World.block_lt_of_cell? _ _ x0)).trans x0
                      have d2 := (hv.cell (World.block_lt_of_cell? _ _ y0)).trans y0
                      go_simp
                      with_reducible rfl))
                 clear hK K))
          refine wpQuiet_nil ?_
          intro wf hk
          replace c1 := (hk.cell (World.block_lt_of_cell? _ _ c1)).trans c1
          replace x0 := (hk.cell (World.block_lt_of_cell? _ _ x0)).trans x0
          replace x1 := (hk.cell (World.block_lt_of_cell? _ _ x1)).trans x1
          replace y0 := (hk.cell (World.block_lt_of_cell? _ _ y0)).trans y0
          have HK := Lib.hid hk
          clear hk
          go_wp2_with fail
          refine wp_region_quiet (C := fun w' => Below wf.heap.size wf w') (by kernel_rfl) (by kernel_rfl) ((Below.refl _ _).drew) ?_
          repeat (
            with_reducible refine wpQuiet_step (fun K hK => ?_)
            go_simp
            first
              | (with_reducible refine hK _ ?_; clear hK K)
              | (refine hK _ ?_; clear hK K)
              | (apply Exists.intro
                 refine ⟨fun v hv => ?_, hK _ ?_⟩
                 (first
                   | with_reducible rfl
                   | (have d0 := (hv.cell (World.block_lt_of_cell? _ _ c1)).trans c1
                      have d1 := (hv.cell (World.block_lt_of_cell? _ _ x0)).trans x0
                      have d2 := (hv.cell (World.block_lt_of_cell? _ _ y0)).trans y0
                      go_simp
                      with_reducible rfl))
                 clear hK K))
          refine wpQuiet_nil ?_
          intro wg hg
          replace c1 := (hg.cell (World.block_lt_of_cell? _ _ c1)).trans c1
          replace x0 := (hg.cell (World.block_lt_of_cell? _ _ x0)).trans x0
          replace x1 := (hg.cell (World.block_lt_of_cell? _ _ x1)).trans x1
          have BG := Lib.hid ((BB.out.trans (HK.out.mono BB.out.size)).trans (hg.mono (Nat.le_trans BB.out.size HK.out.size)))
          clear hg y0 HK q1 q2 q3 q4 RB
          rw [← E1.out] at c1 ⊢
          clear E1
        rotate_left
        focus
          go_wp2_with fail
          have q1 : ¬ (q : Int) < n := by omega
          have q2 : decide ((q : Int) < n) = false := decide_eq_false q1
          refine wp_region_quiet (C := fun w' => Below wr.heap.size wr w') (by kernel_rfl) (by kernel_rfl) ((Below.refl _ _).drew) ?_
          repeat (
            with_reducible refine wpQuiet_step (fun K hK => ?_)
            go_simp
            first
              | (with_reducible refine hK _ ?_; clear hK K)
              | (refine hK _ ?_; clear hK K)
              | (apply Exists.intro
                 refine ⟨fun v hv => ?_, hK _ ?_⟩
                 (first
                   | with_reducible rfl
                   | (have d0 := (hv.cell (World.block_lt_of_cell? _ _ c1)).trans c1
                      have d1 := (hv.cell (World.block_lt_of_cell? _ _ x0)).trans x0
                      go_simp
                      with_reducible rfl))
                 clear hK K))
          refine wpQuiet_nil ?_
          intro wf hk
          replace c1 := (hk.cell (World.block_lt_of_cell? _ _ c1)).trans c1
          replace x0 := (hk.cell (World.block_lt_of_cell? _ _ x0)).trans x0
          replace x1 := (hk.cell (World.block_lt_of_cell? _ _ x1)).trans x1
          have HK := Lib.hid hk
          clear hk q1 q2
          go_wp2_with fail
          have q1 : ¬ (q : Int) < n := by omega
          have q2 : decide ((q : Int) < n) = false := decide_eq_false q1
          refine wp_region_quiet (C := fun w' => Below wf.heap.size wf w') (by kernel_rfl) (by kernel_rfl) ((Below.refl _ _).drew) ?_
          repeat (
            with_reducible refine wpQuiet_step (fun K hK => ?_)
            go_simp
            first
              | (with_reducible refine hK _ ?_; clear hK K)
              | (refine hK _ ?_; clear hK K)
              | (apply Exists.intro
                 refine ⟨fun v hv => ?_, hK _ ?_⟩
                 (first
                   | with_reducible rfl
                   | (have d0 := (hv.cell (World.block_lt_of_cell? _ _ c1)).trans c1
                      have d1 := (hv.cell (World.block_lt_of_cell? _ _ x0)).trans x0
                      go_simp
                      with_reducible rfl))
                 clear hK K))
          refine wpQuiet_nil ?_
          intro wg hg
          replace c1 := (hg.cell (World.block_lt_of_cell? _ _ c1)).trans c1
          replace x0 := (hg.cell (World.block_lt_of_cell? _ _ x0)).trans x0
          replace x1 := (hg.cell (World.block_lt_of_cell? _ _ x1)).trans x1
          have BG := Lib.hid ((BB.out.trans (HK.out.mono BB.out.size)).trans (hg.mono (Nat.le_trans BB.out.size HK.out.size)))
          clear hg HK q1 q2 RB hqn2
        all_goals
          obtain ⟨hnone, hcells⟩ := row_cells RW.out
          have HNONE := Lib.hid hnone
          have HCELLS := Lib.hid hcells
          clear hnone hcells
          have NQ : (flat (l.take q)).length = q * 2 := by rw [flat_length, List.length_take]; have := HN.out; omega
          have ND : (flat (l.drop q)).length = (n - q) * 2 := by rw [flat_length, List.length_drop]; have := HN.out; omega
          have CQ := Lib.hid (show ∀ u, Below W.heap.size W u → ∀ ad, av = some ad → ∀ j y, (flat (l.take q))[j]? = some y → u.cell? (ad.add j) = some y from fun u hu ad e j y hy => by
            rw [← flat_take, List.getElem?_take] at hy
            split at hy
            · exact HCELLS.out u hu ad e j y hy
            · cases hy)
          have H0 : av = none → q = 0 ∧ cp = 0 := fun e => by obtain ⟨h1, h2⟩ := HNONE.out e; exact ⟨by omega, h2⟩
          have H2 := CQ.out _ BG.out
          have H4 : 0 + q ≤ maxLen := by unfold maxLen; omega
          have H5 : (0 + q) * 16 ≤ 140737488355328 := by omega
          go_wp2_with (at_builtin; refine append_any _ rfl _ _ 107 rfl wg.heap.size 111 i0 (.agg #[.int .i64 0, .int .u64 0]) 2 16 Try.underlying107 hi0 hz0 hz1 hz2 rfl (by decide) _ 0 [] rfl ⟨rfl, .inl ⟨rfl, rfl⟩⟩ av q cp (flat (l.take q)) rfl H0 NQ H2 (flat_one _) H4 H5 (Nat.le_refl _) ?_)
          clear H0 H2 H4 H5
          intro v2 w2 o2 b2
          have B2 := Lib.hid b2
          have O2 := Lib.hid o2
          have HZ := Lib.hid (show wg.heap.size ≤ w2.heap.size from b2.size)
          have BG2 := Lib.hid (BG.out.trans (b2.mono BG.out.size))
          have C1 := Lib.hid c1
          replace c1 := (b2.cell (World.block_lt_of_cell? _ _ c1)).trans c1
          replace x0 := (b2.cell (World.block_lt_of_cell? _ _ x0)).trans x0
          replace x1 := (b2.cell (World.block_lt_of_cell? _ _ x1)).trans x1
          clear b2 o2
          have O2' := Lib.hid (O2.out.alloc (.cells #[.int .i64 a, .int .u64 m] 111))
          have H2 : ∀ ad, (some ⟨w2.heap.size, 0, none⟩ : Option Addr) = some ad → ∀ j u, [Value.int .i64 a, .int .u64 m][j]? = some u → (w2.alloc (.cells #[.int .i64 a, .int .u64 m] 111)).cell? (ad.add j) = some u := fun ad e j y hy => by cases e; exact two_new _ _ _ _ j y hy
          have H3 : ∀ u ∈ [Value.int .i64 a, .int .u64 m], u.oneCell' = true := fun u hu => by simp at hu; rcases hu with rfl | rfl <;> rfl
          have H4 : q + 1 ≤ maxLen := by unfold maxLen; omega
          have H5 : (q + 1) * 16 ≤ 140737488355328 := by omega
          have H6 : wg.heap.size ≤ (w2.alloc (.cells #[.int .i64 a, .int .u64 m] 111)).heap.size := Nat.le_trans HZ.out (by simp)
          go_wp2_with (at_builtin; refine append_any _ rfl _ _ 107 rfl wg.heap.size 111 i0 (.agg #[.int .i64 0, .int .u64 0]) 2 16 Try.underlying107 hi0 hz0 hz1 hz2 rfl (by decide) _ q (flat (l.take q)) rfl O2'.out (some ⟨w2.heap.size, 0, none⟩) 1 1 [.int .i64 a, .int .u64 m] rfl (fun e => nomatch e) rfl H2 H3 H4 H5 H6 ?_)
          clear H2 H3 H4 H5 H6
          intro v3 w3 o3 b3
          have B3 := Lib.hid (show Below wg.heap.size wg w3 from (B2.out.alloc HZ.out _).trans b3)
          have O3 := Lib.hid o3
          have BG3 := Lib.hid (BG.out.trans (B3.out.mono BG.out.size))
          clear x0 x1 O2' b3 o3 c1
          have c1 : w3.cell? ⟨p, 1, none⟩ = some (.slice av n cp) := (B3.out.cell (World.block_lt_of_cell? _ _ C1.out)).trans C1.out
          have H63 : q + 1 + (n - q) ≤ maxLen := by unfold maxLen; omega
          have HBY : (q + 1 + (n - q)) * 16 ≤ 140737488355328 := by omega
          have HW3 : wg.heap.size ≤ w3.heap.size := B3.out.size
          cases av with
          | none =>
            obtain ⟨hn0, hc0⟩ := HNONE.out rfl
            obtain rfl : q = 0 := by omega
            subst hn0 hc0
            go_wp2_with (at_builtin; refine append_any _ rfl _ _ 107 rfl wg.heap.size 111 i0 (.agg #[.int .i64 0, .int .u64 0]) 2 16 Try.underlying107 hi0 hz0 hz1 hz2 rfl (by decide) v3 (0 + 1) (flat (l.take 0) ++ [.int .i64 a, .int .u64 m]) rfl O3.out none 0 0 (flat (l.drop 0)) rfl (fun _ => ⟨rfl, rfl⟩) ND (fun _ e => nomatch e) (flat_one _) H63 HBY HW3 ?_)
            all_goals (
              intro v4 w4 o4 b4
              have BT := Lib.hid ((BW.out.trans ((BG.out.trans (B3.out.mono BG.out.size)).mono BW.out.size)).trans (b4.mono (Nat.le_trans BW.out.size BG.out.size)))
              have HP4 := Lib.hid ((BT.out.block p (heap_lt HCP.out)).trans HCP.out)
              have f1 : w4.frozen? ⟨p, 1, none⟩ = false := by simp [World.frozen?, HP4.out]
              have c9 := cell_of HP4.out 1 _ rfl
              obtain ⟨M, hM⟩ : ∃ M, M = moreL l a m := ⟨_, rfl⟩
              have EF : flat M = flat (l.take 0) ++ (.int .i64 a :: .int .u64 m :: flat (l.drop 0)) := by rw [hM, EQ.out, flat_append]; rfl
              have EL : M.length = 0 + 1 + (0 - 0) := by rw [hM, EQ.out, List.length_append, List.length_take, List.length_cons, List.length_drop]; have := HN.out; omega
              have o5 : w4.ownsRow wg.heap.size 111 2 v4 M.length (flat M) := by rw [EL, EF]; simpa [flat] using o4
              obtain ⟨G', r5, g5⟩ := Row.ofOwns o5
              obtain ⟨a4, c4, rfl, _, _⟩ := r5.form
              have hpw : p < wg.heap.size := Nat.lt_of_lt_of_le (heap_lt HCP.out) (Nat.le_trans BW.out.size BG.out.size)
              have R5 := Lib.hid r5
              have HMM := Lib.hid hM
              have G5 := Lib.hid g5
              have HPW := Lib.hid hpw
              clear o4 o5 b4 c1 EF EL r5 hM g5 hpw
              go_wp2
              all_goals go_end0
              all_goals (
                have r5 := R5.out
                have g5 := G5.out
                have hpw := HPW.out
                rw [← HMM.out]
                refine ⟨rfl, p :: G', ⟨_, G', rfl, fun h => (by have := g5 p h; omega), set_at HP4.out 1 _, r5.same fun k hk => Below.heap_setCell w4 ⟨p, 1, none⟩ _ k (fun e => (by have := g5 k hk; have e' : k = p := e; omega))⟩, ⟨(Chg.of BT.out).trans ((Chg.set w4 p 1 _).mono fun k _ e => (by subst e; simp)), fun g hg => ?_⟩⟩
                rcases List.mem_cons.1 hg with rfl | hg
                · exact .inl (by simp)
                · exact .inr (Nat.le_trans (Nat.le_trans BW.out.size BG.out.size) (g5 g hg))))
          | some ad =>
            have H0 : (if cp = q then some ad else some (ad.add (q * 2))) = none → n - q = 0 ∧ cp - q = 0 := fun e => by split at e <;> cases e
            have H2 : ∀ ad', (if cp = q then some ad else some (ad.add (q * 2))) = some ad' → ∀ j y, (flat (l.drop q))[j]? = some y → w3.cell? (ad'.add j) = some y := fun ad' e j y hy => by
              have hj := (List.getElem?_eq_some_iff.1 hy).1
              rw [ND] at hj
              rw [if_neg (by omega)] at e
              cases e
              rw [← flat_drop, List.getElem?_drop] at hy
              rw [Addr.add_add]
              exact HCELLS.out _ (BG.out.trans (B3.out.mono BG.out.size)) _ rfl _ _ hy
            go_wp2_with (at_builtin; refine append_any _ rfl _ _ 107 rfl wg.heap.size 111 i0 (.agg #[.int .i64 0, .int .u64 0]) 2 16 Try.underlying107 hi0 hz0 hz1 hz2 rfl (by decide) v3 (q + 1) (flat (l.take q) ++ [.int .i64 a, .int .u64 m]) rfl O3.out (if cp = q then some ad else some (ad.add (q * 2))) (n - q) (cp - q) (flat (l.drop q)) rfl H0 ND H2 (flat_one _) H63 HBY HW3 ?_)
            all_goals (
              intro v4 w4 o4 b4
              have BT := Lib.hid ((BW.out.trans ((BG.out.trans (B3.out.mono BG.out.size)).mono BW.out.size)).trans (b4.mono (Nat.le_trans BW.out.size BG.out.size)))
              have HP4 := Lib.hid ((BT.out.block p (heap_lt HCP.out)).trans HCP.out)
              have f1 : w4.frozen? ⟨p, 1, none⟩ = false := by simp [World.frozen?, HP4.out]
              have c9 := cell_of HP4.out 1 _ rfl
              obtain ⟨M, hM⟩ : ∃ M, M = moreL l a m := ⟨_, rfl⟩
              have EF : flat M = flat (l.take q) ++ (.int .i64 a :: .int .u64 m :: flat (l.drop q)) := by rw [hM, EQ.out, flat_append]; rfl
              have EL : M.length = q + 1 + (n - q) := by rw [hM, EQ.out, List.length_append, List.length_take, List.length_cons, List.length_drop]; have := HN.out; omega
              have o5 : w4.ownsRow wg.heap.size 111 2 v4 M.length (flat M) := by rw [EL, EF]; simpa [flat] using o4
              obtain ⟨G', r5, g5⟩ := Row.ofOwns o5
              obtain ⟨a4, c4, rfl, _, _⟩ := r5.form
              have hpw : p < wg.heap.size := Nat.lt_of_lt_of_le (heap_lt HCP.out) (Nat.le_trans BW.out.size BG.out.size)
              have R5 := Lib.hid r5
              have HMM := Lib.hid hM
              have G5 := Lib.hid g5
              have HPW := Lib.hid hpw
              clear o4 o5 b4 c1 EF EL r5 hM g5 hpw
              go_wp2
              all_goals go_end0
              all_goals (
                have r5 := R5.out
                have g5 := G5.out
                have hpw := HPW.out
                rw [← HMM.out]
                refine ⟨rfl, p :: G', ⟨_, G', rfl, fun h => (by have := g5 p h; omega), set_at HP4.out 1 _, r5.same fun k hk => Below.heap_setCell w4 ⟨p, 1, none⟩ _ k (fun e => (by have := g5 k hk; have e' : k = p := e; omega))⟩, ⟨(Chg.of BT.out).trans ((Chg.set w4 p 1 _).mono fun k _ e => (by subst e; simp)), fun g hg => ?_⟩⟩
                rcases List.mem_cons.1 hg with rfl | hg
                · exact .inl (by simp)
                · exact .inr (Nat.le_trans (Nat.le_trans BW.out.size BG.out.size) (g5 g hg))))
end Go.Proofs.Ytgafnilcmhjpcaa.HHist
namespace Go.Proofs.Ytgafnilcmhjpcaa.HHist
set_option linter.unusedVariables false
open Go.RowKit Go.Proofs.Ytgafnilcmhjpcaa.HMem Go.Proofs.Ytgafnilcmhjpcaa.HBucket
open Go.Proofs.Ytgafnilcmhjpcaa.Print (I64)

set_option maxHeartbeats 1000000 in
set_option maxRecDepth 20000 in
theorem rBytes_any (w : World) (N s : Nat) (hN : N < 18446744073709551616) (hs : s ≤ 8) (hs1 : 1 ≤ s) :
    Calls Try.prog 44 #[.int .u64 N, .int .i64 s] w fun e w' => e = .returned (.string (strOfNums (be N s))) ∧ Below w.heap.size w w' := by
  obtain ⟨B, hB⟩ : ∃ B, B = w.heap.size := ⟨_, rfl⟩
  have HB := Lib.hid hB
  clear hB
  obtain ⟨i0, hi, hz0, hz1, hz2⟩ := info_parts infoB
  go_enter Try.func44, Try.ntmps44
  go_wp2_with fail
  go_loopw [5, 6] (fun v1 k wr => ∃ (j : Nat) (ys : List Int), j ≤ s ∧ k = .int .i64 ((j : Int) - 1) ∧ ys.length = s - j ∧ ys ++ be N j = be N s ∧ wr.ownsRow B 5 1 v1 ys.length (vb ys) ∧ Below B w wr) (fun _ k _ => (intOf k + 1).toNat)
  case atStart => exact ⟨s, [], Nat.le_refl _, by go_num, by simp, rfl, ⟨rfl, .inl ⟨rfl, rfl⟩⟩, Below.refl _ _⟩
  case round =>
    obtain ⟨j, ys, hj, rfl, hys, hbe, hown, htn⟩ := hrel
    have BE := Lib.hid hbe
    have TN := Lib.hid htn
    have YS := Lib.hid hys
    clear hbe htn hys
    cases j with
    | zero =>
      have hj1 : ¬ (0 : Int) ≤ ((0 : Nat) : Int) - 1 := by omega
      have OE : wr.ownsRow B 5 1 u5 s (vb (be N s)) := by
        have := BE.out
        simp only [be, List.append_nil] at this
        have h := hown
        rw [this, be_length] at h
        exact h
      clear hown
      rcases OE.2 with ⟨rfl, h0⟩ | ⟨g, cap2, cur, rfl, h2, h3, h4, h5, h6, h7⟩
      · omega
      · have hcv := run_convert_bytes_arg (P := Try.prog) wr 79 5 Try.underlying79 Try.underlying5 g 0 s cap2 (be N s) (be_length N s) (fun i hi => by
          have hc := OE.cellAt i (by omega)
          rw [Nat.zero_add, hc]
          have hi' : i < (be N s).length := by rw [be_length]; exact hi
          simp [vb, List.getD_eq_getElem?_getD, List.getElem?_eq_getElem hi']) 9 Try.underlying9
        clear OE h2 h3 h4 h5 h6 h7
        go_wp2
        go_ret
        exact ⟨rfl, by rw [← HB.out]; exact TN.out⟩
    | succ j =>
      have t1 : ((j + 1 : Nat) : Int) - 1 = (j : Int) := by omega
      rw [t1]
      have t2 : (0 : Int) ≤ (j : Int) := by omega
      have t3 : (j : Int) ≤ 7 := by omega
      have t4 : ((8 : Int) * (j : Int)).toNat = 8 * j := by omega
      have hlen : ys.length ≤ 8 := by have := YS.out; omega
      obtain ⟨n, hn⟩ : ∃ n, n = ys.length := ⟨_, rfl⟩
      rw [← hn] at hown hlen
      have HNN := Lib.hid hn
      have HX := Lib.hid (show ((N / 2 ^ (8 * j) % 256 : Nat) : Int) = (N : Int) / 2 ^ (8 * j) % 256 by simp)
      have hBw : B ≤ wr.heap.size := by have h1 := TN.out.size; have h2 := HB.out; omega
      clear hn t1
      go_wp2_with (first
        | (at_builtin; refine wpList_append_own_at _ rfl _ _ 79 rfl B 5 i0 (.int .u8 0) 1 1 Try.underlying79 hi hz0 hz1 hz2 rfl (by decide) _ _ _ rfl (hown.alloc _) ⟨wr.heap.size, 0, none⟩ 1 1 [.int .u8 ((N : Int) / 2 ^ (8 * j) % 256)] rfl rfl ?c1 ?c2 ?c3 ?c4 ?c5 ?_)
        | fail)
      case c1 => exact cell_one_new _ _ _
      case c2 => intro u hu; simp at hu; subst hu; rfl
      case c3 => unfold maxLen; omega
      case c4 => omega
      case c5 => exact Nat.le_trans hBw (by simp)
      intro v' w1 hown' hgrow _ hat
      have hrow : ∀ k, u5.ownBlock = some k → B ≤ k := by
        intro k hk
        rcases hown.2 with ⟨rfl, _⟩ | ⟨g, cap, cur, rfl, hg, _⟩
        · cases hk
        · cases hk; exact hg
      have TW := Lib.hid (show Below B w w1 from (TN.out.alloc hBw _).grown hgrow (Nat.le_trans hBw (by simp)) hrow)
      have O1 := Lib.hid (show w1.ownsRow B 5 1 v' (ys ++ [((N / 2 ^ (8 * j) % 256 : Nat) : Int)]).length (vb (ys ++ [((N / 2 ^ (8 * j) % 256 : Nat) : Int)])) by
        rw [HX.out, List.length_append, ← HNN.out]
        have e : vb (ys ++ [(N : Int) / 2 ^ (8 * j) % 256]) = vb ys ++ [.int .u8 ((N : Int) / 2 ^ (8 * j) % 256)] := by simp [vb]
        rw [e]
        exact hown')
      clear hown' hgrow hown hat hrow
      go_wp2
      go_roundw
      case rel => exact ⟨j, _, by omega, by go_num, by have := YS.out; simp; omega, by rw [List.append_assoc]; exact BE.out, O1.out, TW.out⟩
      case measure => first | (simp [intOf]; done) | (simp [intOf]; omega)
end Go.Proofs.Ytgafnilcmhjpcaa.HHist
namespace Go.Proofs.Ytgafnilcmhjpcaa.HHist
set_option linter.unusedVariables false
open Go.RowKit Go.Proofs.Ytgafnilcmhjpcaa.HMem Go.Proofs.Ytgafnilcmhjpcaa.HBucket
open Go.Proofs.Ytgafnilcmhjpcaa.Print (I64)

theorem rMost_yes (b : Nat) (hb : b ≤ 4) (w : World) :
    Calls Try.prog 90 #[.int .i64 b] w fun e w' => e = .returned (.int .i64 (mostN b : Nat)) ∧ Below w.heap.size w w' := by
  go_enter Try.func90, Try.ntmps90
  go_wp2_with fail
  have K := rOf_yes b 9223372036854775807 w (by omega) (by omega) (by omega) (by omega)
  rw [show sgn 9223372036854775807 (ofN ((b : Int)).toNat (9223372036854775807 : Int).natAbs) = (mostN b : Nat) from rfl] at K
  refine K.mono ?_
  rintro e w1 ⟨rfl, hb1⟩
  have HB1 := Lib.hid hb1
  clear hb1
  go_wp2
  go_ret
  exact ⟨rfl, HB1.out⟩
theorem rMost_no (b : Int) (hb : b < 0 ∨ 4 < b) (w : World) :
    Calls Try.prog 90 #[.int .i64 b] w fun e w' => e = .returned (.int .i64 (-1)) ∧ Below w.heap.size w w' := by
  go_enter Try.func90, Try.ntmps90
  go_wp2_with fail
  refine (rOf_no b 9223372036854775807 w hb).mono ?_
  rintro e w1 ⟨rfl, hb1⟩
  have HB1 := Lib.hid hb1
  clear hb1
  go_wp2
  go_ret
  exact ⟨rfl, HB1.out⟩
end Go.Proofs.Ytgafnilcmhjpcaa.HHist
namespace Go.Proofs.Ytgafnilcmhjpcaa.HHist
set_option linter.unusedVariables false
open Go.RowKit Go.Proofs.Ytgafnilcmhjpcaa.HMem Go.Proofs.Ytgafnilcmhjpcaa.HBucket
open Go.Proofs.Ytgafnilcmhjpcaa.Print (I64)

theorem rBounds_no (b : Nat) (hb : b ≤ 4) (a : Int) (h : ¬ (-(mostN b : Int) - 1 ≤ a ∧ a ≤ mostN b)) (hI : I64 a) (w : World) :
    Calls Try.prog 72 #[.int .i64 b, .int .i64 a] w fun e w' => e = .returned (.tuple #[.int .i64 0, .int .i64 0, .bool false]) ∧ Below w.heap.size w w' := by
  have hm := most_lt b hb
  have K := rMost_yes b hb w
  obtain ⟨M, hM⟩ : ∃ M, M = mostN b := ⟨_, rfl⟩
  rw [← hM] at K hm h
  clear hM
  go_enter Try.func72, Try.ntmps72
  go_wp2_with fail
  refine K.mono ?_
  rintro e w1 ⟨rfl, hb1⟩
  have HB1 := Lib.hid hb1
  clear hb1 K
  have t0 : decide ((M : Int) < 0) = false := decide_eq_false (by omega)
  by_cases h1 : (M : Int) < a
  · have t1 : decide ((M : Int) < a) = true := decide_eq_true h1
    go_wp2
    go_ret3
    exact ⟨rfl, HB1.out⟩
  · have t1 : decide ((M : Int) < a) = false := decide_eq_false h1
    have h2 : a < -(M : Int) - 1 := by omega
    have t2 : decide (a < -(M : Int) - 1) = true := decide_eq_true h2
    go_wp2
    go_ret3
    exact ⟨rfl, HB1.out⟩
end Go.Proofs.Ytgafnilcmhjpcaa.HHist
namespace Go.Proofs.Ytgafnilcmhjpcaa.HHist
set_option linter.unusedVariables false
open Go.RowKit Go.Proofs.Ytgafnilcmhjpcaa.HMem Go.Proofs.Ytgafnilcmhjpcaa.HBucket
open Go.Proofs.Ytgafnilcmhjpcaa.Print (I64)

theorem wrap_swap (x y : Int) : IntKind.u64.wrap (IntKind.u64.wrap (x + y) - 1) = IntKind.u64.wrap (x + IntKind.u64.wrap (y - 1)) := by
  simp [IntKind.wrap, IntKind.signed, IntKind.bits]
  congr 1
  omega
theorem rBounds_yes (b : Nat) (hb : b ≤ 4) (a : Int) (h0 : -(mostN b : Int) - 1 ≤ a) (h1 : a ≤ mostN b) (w : World) :
    Calls Try.prog 72 #[.int .i64 b, .int .i64 a] w fun e w' => e = .returned (.tuple #[.int .i64 (loZ b a), .int .i64 (hiZ b a), .bool true]) ∧ Below w.heap.size w w' := by
  have hm := most_lt b hb
  have K := rMost_yes b hb w
  have q := chkB_of b a.natAbs hb (by omega)
  have L := Lib.hid (lo_eq b a.natAbs (by omega) q.1 q.2.1 q.2.2.1)
  have H := Lib.hid (hi_eq b a.natAbs q.1 q.2.2.2.1)
  have Q := Lib.hid q
  have e63 : eN b a.natAbs ≤ 63 := q.1
  clear q
  obtain ⟨M, hM⟩ : ∃ M, M = mostN b := ⟨_, rfl⟩
  rw [← hM] at K hm h0 h1
  have HM := Lib.hid hM
  clear hM
  go_enter Try.func72, Try.ntmps72
  go_wp2_with fail
  refine K.mono ?_
  rintro e w1 ⟨rfl, hb1⟩
  have HB1 := Lib.hid hb1
  clear hb1 K
  have t0 : decide ((M : Int) < 0) = false := decide_eq_false (by omega)
  have t1 : decide ((M : Int) < a) = false := decide_eq_false (by omega)
  have t2 : decide (a < -(M : Int) - 1) = false := decide_eq_false (by omega)
  have W2 : IntKind.u64.wrap (2 * 2 ^ b) = ((2 * 2 ^ b : Nat) : Int) := two_b b hb
  rcases Int.lt_or_le a 0 with hn | hn
  · obtain ⟨m, rfl⟩ : ∃ m : Nat, a = -(m : Int) := ⟨a.natAbs, by omega⟩
    have F := Lib.hid (fin_neg b (-(m : Int)) hn Q.out.2.2.1 Q.out.2.2.2.1)
    rw [Int.natAbs_neg, Int.natAbs_natCast] at L H e63 F
    have hm2 : m < 1058 := by omega
    have hm1 : 1 ≤ m := by omega
    by_cases hbig : 2 * 2 ^ b ≤ m
    · obtain ⟨E, hE⟩ : ∃ E, E = eN b m := ⟨_, rfl⟩
      have hD : m / 2 ^ b = E + 1 := by
        have h2 : 2 ≤ m / 2 ^ b := (Nat.le_div_iff_mul_le (Nat.two_pow_pos b)).2 hbig
        rw [hE]; unfold eN; omega
      have hD' : (m : Int) / 2 ^ b = (E : Int) + 1 := by
        have := congrArg (Nat.cast : Nat → Int) hD
        simpa using this
      have hD'' : IntKind.u64.wrap (2 * 2 ^ b) ≤ (m : Int) := by rw [W2]; omega
      rw [← hE] at L H e63
      have hE9 : E ≤ 63 := e63
      obtain ⟨lo, hlo⟩ : ∃ lo, lo = loN b m := ⟨_, rfl⟩
      obtain ⟨hi, hhi⟩ : ∃ hi, hi = hiN b m := ⟨_, rfl⟩
      rw [← hlo] at L H F
      rw [← hhi] at H F
      have L' := L.out
      have H' := H.out
      rw [← wrap_swap] at H'
      clear hE hD hbig W2 hlo hhi L H
      by_cases ht : 9223372036854775808 < hi
      · have ht' : (9223372036854775808 : Int) < (hi : Int) := by omega
        go_wp2
        go_ret3
        refine ⟨?_, HB1.out⟩
        rw [← F.out.1, ← F.out.2, Int.min_eq_right (by omega)]
        rfl
      · have ht' : ¬ (9223372036854775808 : Int) < (hi : Int) := by omega
        go_wp2
        go_ret3
        refine ⟨?_, HB1.out⟩
        rw [← F.out.1, ← F.out.2, Int.min_eq_left (by omega)]
        rfl
    · have hE : eN b m = 0 := by
        have h2 : m / 2 ^ b < 2 := (Nat.div_lt_iff_lt_mul (Nat.two_pow_pos b)).2 (by omega)
        unfold eN; omega
      have hlo : loN b m = m := by unfold loN; rw [hE]; simp
      have hhi : hiN b m = m := by unfold hiN; rw [hE, hlo]; simp
      have hD'' : ¬ IntKind.u64.wrap (2 * 2 ^ b) ≤ (m : Int) := by rw [W2]; omega
      have hFF := F.out
      rw [hlo, hhi, Int.min_eq_left (by omega)] at hFF
      have FF := Lib.hid hFF
      clear hE hlo hhi hbig W2 hFF
      go_wp2
      go_ret3
      refine ⟨?_, HB1.out⟩
      have e1 : loZ b (-(m : Int)) = -(m : Int) := by rw [← FF.out.1]; unfold wrap64; omega
      have e2 : hiZ b (-(m : Int)) = -(m : Int) := by rw [← FF.out.2]; unfold wrap64; omega
      rw [e1, e2]
      rfl
  · obtain ⟨m, rfl⟩ : ∃ m : Nat, a = m := ⟨a.toNat, by omega⟩
    have F := Lib.hid (fin_pos b (m : Int) hn (Q.out.2.2.2.2 (by rw [← HM.out]; omega)))
    rw [Int.natAbs_natCast] at L H e63 F
    have hm2 : m < 1056 := by omega
    by_cases hbig : 2 * 2 ^ b ≤ m
    · obtain ⟨E, hE⟩ : ∃ E, E = eN b m := ⟨_, rfl⟩
      have hD : m / 2 ^ b = E + 1 := by
        have h2 : 2 ≤ m / 2 ^ b := (Nat.le_div_iff_mul_le (Nat.two_pow_pos b)).2 hbig
        rw [hE]; unfold eN; omega
      have hD' : (m : Int) / 2 ^ b = (E : Int) + 1 := by
        have := congrArg (Nat.cast : Nat → Int) hD
        simpa using this
      have hD'' : IntKind.u64.wrap (2 * 2 ^ b) ≤ (m : Int) := by rw [W2]; omega
      rw [← hE] at L H e63
      have hE9 : E ≤ 63 := e63
      clear hE hD hbig W2
      go_wp2
      go_ret3
      refine ⟨?_, HB1.out⟩
      simp only [L.out, wrap_swap, H.out]
      rw [F.out.1, F.out.2]
      rfl
    · have hE : eN b m = 0 := by
        have h2 : m / 2 ^ b < 2 := (Nat.div_lt_iff_lt_mul (Nat.two_pow_pos b)).2 (by omega)
        unfold eN; omega
      have hlo : loN b m = m := by unfold loN; rw [hE]; simp
      have hhi : hiN b m = m := by unfold hiN; rw [hE, hlo]; simp
      have hD'' : ¬ IntKind.u64.wrap (2 * 2 ^ b) ≤ (m : Int) := by rw [W2]; omega
      have hFF := F.out
      rw [hlo, hhi] at hFF
      have FF := Lib.hid hFF
      clear hE hlo hhi hbig W2 hFF
      go_wp2
      go_ret3
      refine ⟨?_, HB1.out⟩
      have e1 : loZ b (m : Int) = m := by rw [← FF.out.1]; unfold wrap64; omega
      have e2 : hiZ b (m : Int) = m := by rw [← FF.out.2]; unfold wrap64; omega
      rw [e1, e2]
      rfl
end Go.Proofs.Ytgafnilcmhjpcaa.HHist
namespace Go.Proofs.Ytgafnilcmhjpcaa.HHist
set_option linter.unusedVariables false
open Go.RowKit Go.Proofs.Ytgafnilcmhjpcaa.HMem Go.Proofs.Ytgafnilcmhjpcaa.HBucket Go.Proofs.Ytgafnilcmhjpcaa.HApp
open Go.Proofs.Ytgafnilcmhjpcaa.Print (I64)

/-- The reference's histogram p turned, and so much was answered. -/
def RHRes (w : World) (p : Nat) (G : List Nat) (b : Nat) (l : IL) (v : Value) (e : Ending) (w' : World) : Prop := e = .returned v ∧ ∃ G', RHistAt w' p G' b l ∧ Turn G G' w w'
set_option maxHeartbeats 1000000 in
set_option maxRecDepth 20000 in
theorem rAdd_any {w : World} {p : Nat} {G : List Nat} {b : Nat} {l : IL} (h : RHistAt w p G b l) (ho : HOk b l) (n : Int) (hn : I64 n) :
    Calls Try.prog 40 #[.pointer (some ⟨p, 0, none⟩), .int .i64 n] w (RHRes w p G b (addL b l n).1 (.int .i64 (addL b l n).2)) := by
  have c0 := h.cells.1
  have H := Lib.hid h
  have HB := ho.bits
  have HO := Lib.hid ho
  have KC := Lib.hid (rCount_any h (by have := ho.len; omega) (by have := ho.total; omega))
  by_cases hf : 1099511627776 ≤ total l
  · have E := Lib.hid (show addL b l n = (l, 7) from if_pos hf)
    have t1 : (1099511627776 : Int) ≤ ((total l : Nat) : Int) := by omega
    clear h ho hf
    go_enter Try.func40, Try.ntmps40
    go_wp2_with fail
    refine KC.out.mono ?_
    rintro e w1 ⟨rfl, rfl⟩
    go_wp2
    go_ret
    exact ⟨by rw [E.out]; rfl, G, by rw [E.out]; exact H.out, Turn.refl _ _⟩
  · have E := Lib.hid (show addL b l n = (moreL l (ofZ b n) 1, 0) from if_neg hf)
    have t1 : ¬ (1099511627776 : Int) ≤ ((total l : Nat) : Int) := by omega
    have HT := Lib.hid hf
    clear h ho hf
    go_enter Try.func40, Try.ntmps40
    go_wp2_with fail
    refine KC.out.mono ?_
    rintro e w0 ⟨rfl, rfl⟩
    have t1 : decide ((1099511627776 : Int) ≤ ((total l : Nat) : Int)) = false := by have := HT.out; simp; omega
    go_wp2_with fail
    clear t1
    have KO := rOf_yes (b : Int) n w (by omega) (by omega) hn.1 hn.2
    rw [Int.toNat_natCast, ofZ_def] at KO
    refine KO.mono ?_
    rintro e w1 ⟨rfl, b1⟩
    have H1 := Lib.hid (H.out.mono b1)
    have B1 := Lib.hid b1
    obtain ⟨a, ha⟩ : ∃ a, a = ofZ b n := ⟨_, rfl⟩
    rw [← ha]
    have HA := Lib.hid ha
    clear b1 KO ha c0 KC
    go_wp2_with fail
    refine (rMore_any w1 p G b l a 1 H1.out HO.out.rise (by have := HO.out.len; omega) (by have := HO.out.total; omega)).mono ?_
    rintro e w2 ⟨rfl, G', h2, t2⟩
    have H2 := Lib.hid h2
    have T2 := Lib.hid t2
    clear h2 t2
    go_wp2
    go_ret
    exact ⟨by rw [E.out]; rfl, G', by rw [E.out, ← HA.out]; exact H2.out, (Turn.of B1.out).trans T2.out⟩

set_option maxHeartbeats 2000000 in
set_option maxRecDepth 20000 in
theorem rMerge_any {w : World} {p q : Nat} {G F : List Nat} {b c : Nat} {l m : IL} (h : RHistAt w p G b l) (k : RHistAt w q F c m) (ho : HOk b l) (ko : HOk c m) :
    Calls Try.prog 61 #[.pointer (some ⟨p, 0, none⟩), .pointer (some ⟨q, 0, none⟩)] w (RHRes w p G b (mergeL b l c m).1 (.int .i64 (mergeL b l c m).2)) := by
  obtain ⟨i0, hi0, hz0, hz1, hz2⟩ := infoRI2
  have p0 := h.cells.1
  have q0 := k.cells.1; obtain ⟨_, v, R, hx1, hx2, q1, hrow⟩ := k.cells; clear hx1 hx2
  have H := Lib.hid h
  have K := Lib.hid k
  have HO := Lib.hid ho
  have KO := Lib.hid ko
  have hrl := hrow.own
  have tl := ho.total
  have tm := ko.total
  obtain ⟨av, cp, rfl, hnc, hcm⟩ := hrow.form
  obtain ⟨n, hn⟩ : ∃ n, n = m.length := ⟨_, rfl⟩
  rw [← hn] at q1 hrow hnc
  have HROW := Lib.hid hrow
  have HN := Lib.hid hn
  have hn9 : n ≤ 4294967296 := by have := ko.len; omega
  clear h k ho ko hrow hn hrl
  by_cases hbc : c = b
  rotate_left
  · have t1 : (((c : Nat) : Int) != ((b : Nat) : Int)) = true := by rw [bne_iff_ne]; omega
    have E := Lib.hid (show mergeL b l c m = (l, 1) from if_pos hbc)
    clear hbc
    go_enter Try.func61, Try.ntmps61
    go_wp2_with fail
    refine wp_region_quiet (C := fun w' => Below w.heap.size w w') (by kernel_rfl) (by kernel_rfl) ((Below.refl _ _).drew) ?_
    repeat (
      with_reducible refine wpQuiet_step (fun K hK => ?_)
      go_simp
      first
        | (with_reducible refine hK _ ?_; clear hK K)
        | (refine hK _ ?_; clear hK K)
        | (apply Exists.intro
           refine ⟨fun v hv => ?_, hK _ ?_⟩
           (first
             | with_reducible rfl
             | (have d0 := (hv.cell (World.block_lt_of_cell? _ _ p0)).trans p0
                have d1 := (hv.cell (World.block_lt_of_cell? _ _ q0)).trans q0
                go_simp
                with_reducible rfl))
           clear hK K))
    refine wpQuiet_nil ?_
    intro wf hk
    have BF := Lib.hid hk
    clear hk
    go_wp2
    go_ret
    exact ⟨by rw [E.out]; rfl, G, by rw [E.out]; exact H.out.mono BF.out, Turn.of BF.out⟩
  have t1 : (((c : Nat) : Int) != ((b : Nat) : Int)) = false := by rw [hbc]; simp
  have s1 : IntKind.u64.wrap (((total l : Nat) : Int) + ((total m : Nat) : Int)) = ((total l : Nat) : Int) + ((total m : Nat) : Int) := u64_in _ (by omega) (by omega)
  have KL := Lib.hid (fun (u : World) (hu : RHistAt u p G b l) => rCount_any hu (by have := HO.out.len; omega) (by omega))
  have KM := Lib.hid (fun (u : World) (hu : RHistAt u q F c m) => rCount_any hu (by have := KO.out.len; omega) (by omega))
  by_cases hov : 1099511627776 - total l < total m
  · have t2 : 1099511627776 < ((total l : Nat) : Int) + ((total m : Nat) : Int) := by omega
    have E := Lib.hid (show mergeL b l c m = (l, 7) by unfold mergeL; rw [if_neg (by omega), if_pos hov])
    clear hbc hov
    go_enter Try.func61, Try.ntmps61
    go_wp2_with fail
    refine wp_region_quiet (C := fun w' => Below w.heap.size w w') (by kernel_rfl) (by kernel_rfl) ((Below.refl _ _).drew) ?_
    repeat (
      with_reducible refine wpQuiet_step (fun K hK => ?_)
      go_simp
      first
        | (with_reducible refine hK _ ?_; clear hK K)
        | (refine hK _ ?_; clear hK K)
        | (apply Exists.intro
           refine ⟨fun v hv => ?_, hK _ ?_⟩
           (first
             | with_reducible rfl
             | (have d0 := (hv.cell (World.block_lt_of_cell? _ _ p0)).trans p0
                have d1 := (hv.cell (World.block_lt_of_cell? _ _ q0)).trans q0
                go_simp
                with_reducible rfl))
           clear hK K))
    refine wpQuiet_nil ?_
    intro wf hk
    have BF := Lib.hid hk
    clear hk
    go_wp2_with fail
    refine (KL.out wf (H.out.mono BF.out)).mono ?_
    rintro e w1 ⟨rfl, rfl⟩
    go_wp2_with fail
    refine (KM.out wf (K.out.mono BF.out)).mono ?_
    rintro e w1 ⟨rfl, rfl⟩
    go_wp2
    go_ret
    exact ⟨by rw [E.out]; rfl, G, by rw [E.out]; exact H.out.mono BF.out, Turn.of BF.out⟩
  · have E := Lib.hid (show mergeL b l c m = (foldL l m, 0) by unfold mergeL; rw [if_neg (by omega), if_neg hov])
    have HT := Lib.hid (show total l + total m ≤ 1099511627776 by omega)
    have HBC := Lib.hid hbc
    clear hbc hov
    go_enter Try.func61, Try.ntmps61
    go_wp2_with fail
    refine wp_region_quiet (C := fun w' => Below w.heap.size w w') (by kernel_rfl) (by kernel_rfl) ((Below.refl _ _).drew) ?_
    repeat (
      with_reducible refine wpQuiet_step (fun K hK => ?_)
      go_simp
      first
        | (with_reducible refine hK _ ?_; clear hK K)
        | (refine hK _ ?_; clear hK K)
        | (apply Exists.intro
           refine ⟨fun v hv => ?_, hK _ ?_⟩
           (first
             | with_reducible rfl
             | (have d0 := (hv.cell (World.block_lt_of_cell? _ _ p0)).trans p0
                have d1 := (hv.cell (World.block_lt_of_cell? _ _ q0)).trans q0
                go_simp
                with_reducible rfl))
           clear hK K))
    refine wpQuiet_nil ?_
    intro wf hk
    replace q1 := (hk.cell (World.block_lt_of_cell? _ _ q1)).trans q1
    have BF := Lib.hid hk
    have RF := Lib.hid (HROW.out.same (Same.own hk HROW.out.own))
    clear hk
    go_wp2_with fail
    refine (KL.out wf (H.out.mono BF.out)).mono ?_
    rintro e w1 ⟨rfl, rfl⟩
    go_wp2_with fail
    refine (KM.out wf (K.out.mono BF.out)).mono ?_
    rintro e w1 ⟨rfl, rfl⟩
    have t2 : decide (1099511627776 < ((total l : Nat) : Int) + ((total m : Nat) : Int)) = false := by have := HT.out; simp; omega
    obtain ⟨hnone, hcells⟩ := row_cells RF.out
    have NL : (flat m).length = n * 2 := by rw [flat_length]; have := HN.out; omega
    have H2 := hcells wf (Below.refl _ _)
    have H4 : 0 + n ≤ maxLen := by unfold maxLen; omega
    have H5 : (0 + n) * 16 ≤ 140737488355328 := by omega
    go_wp2_with (at_builtin; refine append_any _ rfl _ _ 107 rfl wf.heap.size 111 i0 (.agg #[.int .i64 0, .int .u64 0]) 2 16 Try.underlying107 hi0 hz0 hz1 hz2 rfl (by decide) (.slice none 0 0) 0 [] rfl ⟨rfl, .inl ⟨rfl, rfl⟩⟩ av n cp (flat m) rfl hnone NL H2 (flat_one _) H4 H5 (Nat.le_refl _) ?_)
    intro v3 w3 o3 b3
    have o3' : w3.ownsRow wf.heap.size 111 2 v3 n (flat m) := by simpa using o3
    obtain ⟨G3, r3, g3⟩ := Row.ofOwns o3'
    obtain ⟨ba, cap, rfl, _⟩ := r3.form
    have B3 := Lib.hid (BF.out.trans (b3.mono BF.out.size))
    have O3 := Lib.hid (show Own 0 w3 (G ++ G3) from (H.out.own.size (Nat.le_trans BF.out.size b3.size)).join r3.own fun x hx h' => by have := (H.out.own.mem x hx).2; have := g3 x h'; have := BF.out.size; omega)
    have R3 := Lib.hid r3
    have H3 := Lib.hid (H.out.mono B3.out)
    clear b3 r3 g3 p0 q0 q1 s1 t1 t2 tl tm BF o3 o3' hnone hcells H2 H4 H5 RF NL KL KM
    go_wp2_with fail
    go_loopw [6] (fun x wr => ∃ (j : Nat) (Gj : List Nat), j ≤ n ∧ x = .int .i64 j ∧ RHistAt wr p Gj b (foldL l (m.take j)) ∧ Row 111 2 wr (.slice ba n cap) n (flat m) G3 ∧ Own 0 wr (Gj ++ G3) ∧ Turn G Gj w wr) (fun x _ => n - (intOf x).toNat)
    case atStart => exact ⟨0, G, Nat.zero_le _, rfl, H3.out, R3.out, O3.out, Turn.of B3.out⟩
    case round =>
      obtain ⟨j, Gj, hj, rfl, hh, rr, oo, tt⟩ := hrel
      have HH := Lib.hid hh
      have RR := Lib.hid rr
      have OO := Lib.hid oo
      have TT := Lib.hid tt
      clear hh rr oo tt
      rcases Nat.lt_or_ge j n with hlt | hge
      · have hj1 : (j : Int) < n := by omega
        obtain ⟨x, hx⟩ : ∃ x, m[j]? = some x := ⟨_, List.getElem?_eq_getElem (by rw [← HN.out]; exact hlt)⟩
        obtain ⟨g, off, cap', e1, _, _, _, hc⟩ := RR.out.there (by omega)
        cases e1
        have c0 := (hc _ _ (flat_get m j x hx).1).1
        have c1 := (hc _ _ (flat_get m j x hx).2).1
        rw [← Nat.add_assoc] at c1
        have HX := Lib.hid (show foldL l (m.take (j + 1)) = moreL (foldL l (m.take j)) x.1 x.2 by
          rw [List.take_add_one, hx]; exact foldL_snoc _ _ _)
        have HJ := Lib.hid (show HOk b (foldL l (m.take j)) by
          refine HOk.fold _ _ HO.out (by have := total_take m j; have := HT.out; omega) fun y hy => ?_
          rw [← HBC.out]
          exact KO.out.item y (List.mem_of_mem_take hy))
        have HM := Lib.hid (show total (foldL l (m.take j)) + x.2 < 18446744073709551616 by
          rw [total_foldL]
          have := total_take m j
          have := many_le m x (List.mem_of_getElem? hx)
          have := HT.out
          omega)
        have hlt' := Lib.hid hlt
        clear hc hx hlt
        go_wp2_with fail
        refine (rMore_any _ p Gj b _ x.1 x.2 HH.out HJ.out.rise (by have := HJ.out.len; omega) HM.out).mono ?_
        rintro e w6 ⟨rfl, G6, h6, t6⟩
        have O6 := Lib.hid (t6.own OO.out (Nat.zero_le _) h6.own)
        have R6 := Lib.hid (RR.out.same (t6.same OO.out))
        have T6 := Lib.hid (TT.out.trans t6)
        have H6 := Lib.hid (show RHistAt w6 p G6 b (foldL l (m.take (j + 1))) by rw [HX.out]; exact h6)
        clear h6 t6 c0 c1
        go_wp2
        go_roundw
        case rel => exact ⟨j + 1, G6, hlt'.out, by go_num, H6.out, R6.out, O6.out, T6.out⟩
        case measure => have := hlt'.out; simp [intOf]; omega
      · have hj1 : ¬ (j : Int) < n := by omega
        have EJ := Lib.hid (show m.take j = m from List.take_of_length_le (by have := HN.out; omega))
        clear hge
        go_wp2
        go_ret
        exact ⟨by rw [E.out]; rfl, Gj, by rw [E.out]; have := HH.out; rw [EJ.out] at this; exact this, TT.out⟩

end Go.Proofs.Ytgafnilcmhjpcaa.HHist
namespace Go.Proofs.Ytgafnilcmhjpcaa.HHist
set_option linter.unusedVariables false
open Go.RowKit Go.Proofs.Ytgafnilcmhjpcaa.HMem Go.Proofs.Ytgafnilcmhjpcaa.HBucket Go.Proofs.Ytgafnilcmhjpcaa.HApp
open Go.Proofs.Ytgafnilcmhjpcaa.Print (I64)

theorem str_app (a b : List Int) : strOfNums a ++ strOfNums b = strOfNums (a ++ b) := by
  refine ByteArray.ext (Array.toList_inj.1 ?_)
  rw [ByteArray.data_append, Array.toList_append, strOfNums_data, strOfNums_data, strOfNums_data, List.map_append]
theorem str_size (a : List Int) : (strOfNums a).size = a.length := by
  show (strOfNums a).data.size = _
  rw [← Array.length_toList, strOfNums_data, List.length_map]
set_option maxHeartbeats 2000000 in
set_option maxRecDepth 20000 in
theorem rPut_any {w : World} {p : Nat} {G : List Nat} {b : Nat} {l : IL} (h : RHistAt w p G b l) (ho : HOk b l) :
    Calls Try.prog 37 #[.pointer (some ⟨p, 0, none⟩)] w fun e w' => e = .returned (.string (strOfNums (encL b l))) ∧ Below w.heap.size w w' := by
  have c0 := h.cells.1
  obtain ⟨_, v, R, hx1, hx2, c1, hrow⟩ := h.cells
  obtain ⟨ba, cap, rfl, _⟩ := hrow.form
  have HO := Lib.hid ho
  have HR := Lib.hid hrow
  have hb := ho.bits
  have hlen := ho.len
  obtain ⟨n, hn⟩ : ∃ n, n = l.length := ⟨_, rfl⟩
  have HN := Lib.hid hn
  rw [← hn] at c1 hlen HR
  clear ho h hrow hn hx1 hx2
  go_enter Try.func37, Try.ntmps37
  go_wp2_with fail
  obtain ⟨T1, hT1⟩ : ∃ T1, T1 = strOfNums (be b 1) := ⟨_, rfl⟩
  obtain ⟨T2, hT2⟩ : ∃ T2, T2 = strOfNums (be n 2) := ⟨_, rfl⟩
  have K1 := Lib.hid (show ∀ v, Below w.heap.size w v → Calls Try.prog 44 #[.int .u64 b, .int .i64 1] v fun e w' => e = .returned (.string T1) ∧ Below v.heap.size v w' from fun v _ => by
    rw [hT1]; exact rBytes_any v b 1 (by omega) (by omega) (by omega))
  have K2 := Lib.hid (show ∀ v, Below w.heap.size w v → Calls Try.prog 44 #[.int .u64 n, .int .i64 2] v fun e w' => e = .returned (.string T2) ∧ Below v.heap.size v w' from fun v _ => by
    rw [hT2]; exact rBytes_any v n 2 (by omega) (by omega) (by omega))
  have s1 : IntKind.u64.wrap ((b : Nat) : Int) = ((b : Nat) : Int) := u64_in _ (by omega) (by omega)
  have s2 : IntKind.u64.wrap ((n : Nat) : Int) = ((n : Nat) : Int) := u64_in _ (by omega) (by omega)
  have z1 : ¬ 9223372036854775807 < T1.size + T2.size := by rw [hT1, hT2, str_size, str_size, be_length, be_length]; omega
  have H1 := Lib.hid hT1
  have H2 := Lib.hid hT2
  clear hT1 hT2
  refine wp_region_quiet (C := fun w' => Below w.heap.size w w') (by kernel_rfl) (by kernel_rfl) ((Below.refl _ _).drew) ?_
  repeat (
    with_reducible refine wpQuiet_step (fun K hK => ?_)
    go_simp
    first
      | (with_reducible refine hK _ ?_; clear hK K)
      | (refine hK _ ?_; clear hK K)
      | (apply Exists.intro
         refine ⟨fun v hv => ?_, hK _ ?_⟩
         (first
           | with_reducible rfl
           | (with_reducible show Calls _ _ _ _ _
              first
                | with_reducible refine Calls.mono (K1.out _ hv) ?_
                | with_reducible refine Calls.mono (K2.out _ hv) ?_
              rintro e w' ⟨rfl, hb⟩
              exact ⟨rfl, hv.trans (hb.mono hv.size)⟩)
           | (have d0 := (hv.cell (World.block_lt_of_cell? _ _ c0)).trans c0
              have d1 := (hv.cell (World.block_lt_of_cell? _ _ c1)).trans c1
              go_simp
              with_reducible rfl))
         clear hK K))
  refine wpQuiet_nil ?_
  intro wf hk
  replace c1 := (hk.cell (World.block_lt_of_cell? _ _ c1)).trans c1
  have BF := Lib.hid hk
  obtain ⟨P, hP⟩ : ∃ P, P = T1 ++ T2 := ⟨_, rfl⟩
  have HP := Lib.hid (show P = strOfNums ((b : Int) :: be n 2) by
    rw [hP, H1.out, H2.out, str_app]
    have : be b 1 = [(b : Int)] := by simp [be]; omega
    rw [this]; rfl)
  clear hk K1 K2 s1 s2 z1 c0
  rw [← hP]
  clear hP
  obtain ⟨pre, hpre⟩ : ∃ pre : List Int, pre = (b : Int) :: be n 2 := ⟨_, rfl⟩
  rw [← hpre] at HP
  have HPL := Lib.hid (show pre.length = 3 by rw [hpre]; simp [be_length])
  have HPR := Lib.hid hpre
  have C1 := Lib.hid c1
  clear hpre H1 H2
  go_wp2_with fail
  rename World => W0
  go_loopw [3, 4] (fun s x wr => ∃ (j : Nat) (S : ByteArray), j ≤ n ∧ x = .int .i64 j ∧ s = .string S ∧ S = strOfNums (pre ++ encI (l.take j)) ∧ Below W0.heap.size W0 wr) (fun _ x _ => n - (intOf x).toNat)
  case atStart => exact ⟨0, P, Nat.zero_le _, rfl, rfl, by rw [HP.out]; simp [encI], Below.refl _ _⟩
  case round =>
    obtain ⟨j, S, hj, rfl, rfl, hS, bb⟩ := hrel
    have HS := Lib.hid hS
    have BB := Lib.hid bb
    have c1 : wr.cell? ⟨p, 1, none⟩ = some (.slice ba n cap) := (bb.cell (World.block_lt_of_cell? _ _ C1.out)).trans C1.out
    have RR := Lib.hid ((HR.out.same (Same.own BF.out HR.out.own)).same (Same.own bb (HR.out.own.size BF.out.size)))
    clear hS bb
    rcases Nat.lt_or_ge j n with hlt | hge
    · have hj1 : (j : Int) < n := by omega
      obtain ⟨x, hx⟩ : ∃ x, l[j]? = some x := ⟨_, List.getElem?_eq_getElem (by rw [← HN.out]; exact hlt)⟩
      obtain ⟨g, off, cap', e1, _, _, _, hc⟩ := RR.out.there (by omega)
      cases e1
      have y0 := (hc _ _ (flat_get l j x hx).1).1
      have y1 := (hc _ _ (flat_get l j x hx).2).1
      rw [← Nat.add_assoc] at y1
      have hit := HO.out.item x (List.mem_of_getElem? hx)
      have hmost := most_lt b hb
      have htot : x.2 ≤ 1099511627776 := Nat.le_trans (many_le l x (List.mem_of_getElem? hx)) HO.out.total
      obtain ⟨A, hA⟩ : ∃ A : Nat, A = (x.1 + 2147483648).toNat := ⟨_, rfl⟩
      have s3 : IntKind.u64.wrap (x.1 + 2147483648) = (A : Int) := by rw [u64_in _ (by omega) (by omega)]; omega
      have s4 : IntKind.i64.wrap (x.1 + 2147483648) = x.1 + 2147483648 := by rw [IntKind.wrap_i64]; omega
      have hA2 : A < 18446744073709551616 := by omega
      have HX := Lib.hid (show encI (l.take (j + 1)) = encI (l.take j) ++ (be A 4 ++ be x.2 6) by rw [List.take_add_one, hx, hA]; exact encI_snoc _ _)
      obtain ⟨T1, hT1⟩ : ∃ T1, T1 = strOfNums (be A 4) := ⟨_, rfl⟩
      obtain ⟨T2, hT2⟩ : ∃ T2, T2 = strOfNums (be x.2 6) := ⟨_, rfl⟩
      have K1 := Lib.hid (show ∀ v, Below wr.heap.size wr v → Calls Try.prog 44 #[.int .u64 A, .int .i64 4] v fun e w' => e = .returned (.string T1) ∧ Below v.heap.size v w' from fun v _ => by
        rw [hT1]; exact rBytes_any v A 4 (by omega) (by omega) (by omega))
      have K2 := Lib.hid (show ∀ v, Below wr.heap.size wr v → Calls Try.prog 44 #[.int .u64 (x.2 : Int), .int .i64 6] v fun e w' => e = .returned (.string T2) ∧ Below v.heap.size v w' from fun v _ => by
        rw [hT2]; exact rBytes_any v x.2 6 (by omega) (by omega) (by omega))
      have hSz : S.size ≤ 100000 := by
        rw [HS.out, str_size, List.length_append, HPL.out, encI_length]
        have : (l.take j).length ≤ j := List.length_take_le _ _
        omega
      have z1 : ¬ 9223372036854775807 < S.size + T1.size := by rw [hT1, str_size, be_length]; omega
      have z2 : ¬ 9223372036854775807 < S.size + T1.size + T2.size := by rw [hT1, hT2, str_size, str_size, be_length, be_length]; omega
      have HST := Lib.hid (show S ++ T1 ++ T2 = strOfNums (pre ++ encI (l.take (j + 1))) by
        rw [HS.out, hT1, hT2, str_app, str_app, HX.out, List.append_assoc, List.append_assoc])
      have hlt' := Lib.hid hlt
      clear hc hx hit hmost hlt hA hT1 hT2 hSz hA2
      go_wp2_with fail
      refine wp_region_quiet (C := fun w' => Below wr.heap.size wr w') (by kernel_rfl) (by kernel_rfl) ((Below.refl _ _).drew) ?_
      repeat (
        with_reducible refine wpQuiet_step (fun K hK => ?_)
        go_simp
        first
          | (with_reducible refine hK _ ?_; clear hK K)
          | (refine hK _ ?_; clear hK K)
          | (apply Exists.intro
             refine ⟨fun v hv => ?_, hK _ ?_⟩
             (first
               | with_reducible rfl
               | (with_reducible show Calls _ _ _ _ _
                  first
                    | with_reducible refine Calls.mono (K1.out _ hv) ?_
                    | with_reducible refine Calls.mono (K2.out _ hv) ?_
                  rintro e w' ⟨rfl, hb⟩
                  exact ⟨rfl, hv.trans (hb.mono hv.size)⟩)
               | (have d0 := (hv.cell (World.block_lt_of_cell? _ _ c1)).trans c1
                  have d1 := (hv.cell (World.block_lt_of_cell? _ _ y0)).trans y0
                  have d2 := (hv.cell (World.block_lt_of_cell? _ _ y1)).trans y1
                  go_simp
                  with_reducible rfl))
             clear hK K))
      refine wpQuiet_nil ?_
      intro wf hk
      have BG := Lib.hid (BB.out.trans (hk.mono BB.out.size))
      obtain ⟨S', hS'⟩ : ∃ S', S' = S ++ T1 ++ T2 := ⟨_, rfl⟩
      rw [← hS'] at HST ⊢
      clear hk K1 K2 s3 s4 z1 z2 y0 y1 c1 hS'
      go_wp2
      go_roundw
      case rel => exact ⟨j + 1, S', hlt'.out, by go_num, rfl, HST.out, BG.out⟩
      case measure => have := hlt'.out; simp [intOf]; omega
    · have hj1 : ¬ (j : Int) < n := by omega
      have EJ := Lib.hid (show S = strOfNums (encL b l) by
        rw [HS.out, List.take_of_length_le (by rw [← HN.out]; omega), HPR.out, HN.out]
        rfl)
      clear hge
      go_wp2
      go_ret
      exact ⟨by rw [EJ.out]; rfl, BF.out.trans (BB.out.mono BF.out.size)⟩
end Go.Proofs.Ytgafnilcmhjpcaa.HHist
namespace Go.Proofs.Ytgafnilcmhjpcaa.HHist
set_option linter.unusedVariables false
open Go.RowKit Go.Proofs.Ytgafnilcmhjpcaa.HMem Go.Proofs.Ytgafnilcmhjpcaa.HBucket Go.Proofs.Ytgafnilcmhjpcaa.HApp
open Go.Proofs.Ytgafnilcmhjpcaa.Print (I64)

theorem owns_same {w w' : World} {B : Nat} {e : TypeId} {size : Nat} {v : Value} {n : Nat} {xs : List Value} (h : w.ownsRow B e size v n xs) (s : ∀ g, B ≤ g → g < w.heap.size → w'.heap[g]? = w.heap[g]?) : w'.ownsRow B e size v n xs := by
  refine ⟨h.1, ?_⟩
  rcases h.2 with h | ⟨g, cap, cur, h1, h2, h3, h4⟩
  · exact .inl h
  · exact .inr ⟨g, cap, cur, h1, h2, by rw [s g h2 (heap_lt h3)]; exact h3, h4⟩
/-- What is being got: the histogram's block, its row of one's own. -/
structure RGot (w : World) (p b : Nat) (acc : IL) : Prop where
  ex : ∃ v, w.heap[p]? = some (.cells #[.int .i64 b, v] 109 (0, 0)) ∧ w.ownsRow (p + 1) 111 2 v acc.length (flat acc)
theorem RGot.hist {w : World} {p b : Nat} {acc : IL} (h : RGot w p b acc) : ∃ G, RHistAt w p G b acc ∧ ∀ g ∈ G, p ≤ g := by
  obtain ⟨v, h1, h2⟩ := h.ex
  obtain ⟨G, r, hg⟩ := Row.ofOwns h2
  exact ⟨p :: G, ⟨v, G, rfl, fun h => by have := hg p h; omega, h1, r⟩, fun g hg' => by
    rcases List.mem_cons.1 hg' with rfl | hg'
    · exact Nat.le_refl _
    · have := hg g hg'; omega⟩
theorem RGot.mono {w w' : World} {p b : Nat} {acc : IL} (h : RGot w p b acc) (k : Below w.heap.size w w') : RGot w' p b acc := by
  obtain ⟨v, h1, h2⟩ := h.ex
  exact ⟨v, (k.block p (heap_lt h1)).trans h1, owns_same h2 fun g _ hg => k.block g hg⟩
/-- Where the items end. -/
def LastIs (acc : IL) (last : Int) : Prop := (acc = [] ∧ last = -2147483649) ∨ ∃ r x, acc = r ++ [x] ∧ x.1 = last
theorem LastIs.snoc (acc : IL) (a : Int) (q : Nat) : LastIs (acc ++ [(a, q)]) a := .inr ⟨acc, (a, q), rfl, rfl⟩
theorem LastIs.le {acc : IL} {last : Int} (h : LastIs acc last) (hr : Rise acc) : ∀ y ∈ acc, y.1 ≤ last := by
  rcases h with ⟨rfl, _⟩ | ⟨r, x, rfl, rfl⟩
  · intro y hy; cases hy
  · intro y hy
    rcases List.mem_append.1 hy with hy | hy
    · have := (List.pairwise_append.1 hr).2.2 y hy x (by simp)
      omega
    · simp at hy; subst hy; exact Int.le_refl _
theorem LastIs.at {acc : IL} {last : Int} (h : LastIs acc last) (i : Nat) (hi : acc.length = i + 1) : ∃ x, acc[i]? = some x ∧ x.1 = last := by
  rcases h with ⟨rfl, _⟩ | ⟨r, x, rfl, rfl⟩
  · simp at hi
  · have : r.length = i := by simpa using hi
    exact ⟨x, by rw [← this]; simp, rfl⟩
/-- What Get answers. -/
def RGetRes (w : World) (b : Nat) (r : Option (IL × List UInt8)) (e : Ending) (w' : World) : Prop :=
  (r = none ∧ e = .returned (.tuple #[.pointer none, .string ⟨#[]⟩, .int .i64 2]) ∧ Below w.heap.size w w') ∨
  ∃ (l : IL) (s : ByteArray) (p : Nat) (G : List Nat), r = some (l, s.data.toList) ∧ e = .returned (.tuple #[.pointer (some ⟨p, 0, none⟩), .string s, .int .i64 0]) ∧ RHistAt w' p G b l ∧ HOk b l ∧ (∀ g ∈ G, w.heap.size ≤ g) ∧ Below w.heap.size w w'
set_option maxHeartbeats 4000000 in
set_option maxRecDepth 20000 in
theorem rGet_walk (s : ByteArray) (w : World) (hs : s.size ≤ 140737488355328) (b : Nat) (hb : b ≤ 4) (h3 : 3 ≤ s.size) (hb0 : num (s.data.toList.take 1) = b) (hlen : 3 + 10 * num ((s.data.toList.drop 1).take 2) ≤ s.size) :
    Calls Try.prog 48 #[.string s] w (RGetRes w b (decI b (num ((s.data.toList.drop 1).take 2)) (s.data.toList.drop 3) (-2147483649) [])) := by
  obtain ⟨i0, hi0, hz0, hz1, hz2⟩ := infoRI2
  have h3' : (3 : Int) ≤ s.size := by omega
  have t0 : decide ((s.size : Int) < 3) = false := by simp; omega
  have eb : num (s.data.toList.take 1) = (s[0]'(by omega)).toNat := by
    rw [take_byte s 0 (by omega)]; simp [num]
  have e0 : wrap64 (((s[0]'(by omega)).toNat : Nat) : Int) = (b : Int) := by
    rw [← hb0, eb]; unfold wrap64; have := (s[0]'(by omega)).toNat_lt; omega
  have e00 : (((s[0]'(by omega)).toNat : Nat) : Int) = (b : Int) := by rw [← hb0, eb]
  have t00 : decide ((4 : Int) < (b : Int)) = false := by simp; omega
  clear eb
  obtain ⟨RES, hR⟩ : ∃ RES, RES = decI b (num ((s.data.toList.drop 1).take 2)) (s.data.toList.drop 3) (-2147483649) [] := ⟨_, rfl⟩
  have HRR := Lib.hid hR
  rw [← hR]
  have e1 : (s.extract 1 3).data.toList = (s.data.toList.drop 1).take 2 := by rw [Lib.extract_data]
  have KG := Lib.hid (fun u : World => rNumber_any (s.extract 1 3) u (by rw [ext_size _ _ _ (by omega) (by omega)]; omega))
  rw [e1] at KG
  obtain ⟨m, hm⟩ : ∃ m, m = num ((s.data.toList.drop 1).take 2) := ⟨_, rfl⟩
  rw [← hm] at KG hlen HRR
  have hm2 : m < 65536 := by
    have := num_lt ((s.data.toList.drop 1).take 2)
    have h2 : ((s.data.toList.drop 1).take 2).length ≤ 2 := List.length_take_le _ _
    rw [hm]
    exact Nat.lt_of_lt_of_le this (Nat.le_trans (Nat.pow_le_pow_right (by decide) h2) (by decide))
  clear hm e1 hR hb0
  go_enter Try.func48, Try.ntmps48
  go_wp2_with fail
  refine (rNew_yes b w hb).mono ?_
  rintro e w1 ⟨rfl, h1, b1⟩
  obtain ⟨p, hp⟩ : ∃ p, p = w.heap.size := ⟨_, rfl⟩
  rw [← hp] at h1 ⊢
  have R1 := Lib.hid (show RGot w1 p b [] by
    obtain ⟨v, R, e1, hx, hc, hr⟩ := h1.ex
    rcases hr.2 with ⟨rfl, _⟩ | ⟨g, off, cap, cur, e2, _⟩
    · exact ⟨_, hc, rfl, .inl ⟨rfl, rfl⟩⟩
    · rw [e2] at e1; simp at e1)
  have B1 := Lib.hid b1
  have HP := Lib.hid hp
  clear h1 b1 hp
  go_wp2_with fail
  refine (KG.out w1).mono ?_
  rintro e w2 ⟨rfl, rfl⟩
  have t1 : decide (((s.size - 3 : Nat) : Int) < 10 * (m : Int)) = false := by simp; omega
  obtain ⟨S, hS⟩ : ∃ S, S = s.extract 3 s.size := ⟨_, rfl⟩
  have hSs : S.size = s.size - 3 := by rw [hS, ext_size _ _ _ (Nat.le_refl _) (by omega)]
  have hSl : S.data.toList = s.data.toList.drop 3 := by rw [hS, Lib.extract_to_end]
  have HSS := Lib.hid hS.symm
  rw [← hSl] at HRR
  have HS1 := Lib.hid (show 10 * m ≤ S.size ∧ S.size ≤ 140737488355328 by omega)
  clear hS hSl hSs e0 e00 t00 KG
  go_wp2_with fail
  rw [HSS.out]
  go_loopw [7, 8] (fun u x wr => ∃ (k i : Nat) (S' : ByteArray) (last : Int) (acc : IL), u = .string S' ∧ x = .int .i64 i ∧ i = acc.length ∧ i + k = m ∧ 10 * k ≤ S'.size ∧ S'.size ≤ 140737488355328 ∧ RES = decI b k S'.data.toList last acc ∧ LastIs acc last ∧ RGot wr p b acc ∧ HOk b acc ∧ Below w.heap.size w wr) (fun _ x _ => m - (intOf x).toNat)
  case atStart => exact ⟨m, 0, S, -2147483649, [], rfl, rfl, rfl, by omega, HS1.out.1, HS1.out.2, HRR.out, .inl ⟨rfl, rfl⟩, R1.out, HOk.nil hb, B1.out⟩
  case round =>
    obtain ⟨k, i, S', last, acc, rfl, rfl, hi, hik, hk2, hs2, hd, hla, hg, ho, bb⟩ := hrel
    have HD := Lib.hid hd
    have HI := Lib.hid hi
    have HG := Lib.hid hg
    have HO := Lib.hid ho
    have HLA := Lib.hid hla
    have BB := Lib.hid bb
    clear hd hg ho bb hi hla
    cases k with
    | zero =>
      have t2 : ¬ (i : Int) < (m : Int) := by omega
      go_wp2
      go_ret3
      obtain ⟨G, hh, hG⟩ := HG.out.hist
      exact .inr ⟨acc, S', p, G, by rw [HD.out]; rfl, rfl, hh, HO.out, fun g h => by rw [← HP.out]; exact hG g h, BB.out⟩
    | succ k =>
      have t2 : (i : Int) < (m : Int) := by omega
      have e2 := Lib.extract_data S' 0 4
      have e3 := Lib.extract_data S' 4 10
      have n1 := num_two S'.data.toList 4
      have n2 := num_two (S'.data.toList.drop 4) 6
      obtain ⟨a, ha⟩ : ∃ a, a = itAt S'.data.toList := ⟨_, rfl⟩
      obtain ⟨q, hq⟩ : ∃ q, q = itMany S'.data.toList := ⟨_, rfl⟩
      obtain ⟨z, hz⟩ : ∃ z, z = num (S'.data.toList.take 4) := ⟨_, rfl⟩
      have K1 := Lib.hid (show ∀ u : World, Calls Try.prog 49 #[.string (S'.extract 0 4)] u fun e w' => e = .returned (.int .u64 z) ∧ u = w' from fun u => by
        have := rNumber_any (S'.extract 0 4) u (by rw [ext_size _ _ _ (by omega) (by omega)]; omega)
        rw [e2, List.drop_zero, Nat.sub_zero, ← hz] at this
        exact this)
      have K2 := Lib.hid (show ∀ u : World, Calls Try.prog 49 #[.string (S'.extract 4 10)] u fun e w' => e = .returned (.int .u64 q) ∧ u = w' from fun u => by
        have := rNumber_any (S'.extract 4 10) u (by rw [ext_size _ _ _ (by omega) (by omega)]; omega)
        rw [e3, show 10 - 4 = 6 by omega] at this
        rw [hq]
        exact this)
      have hza : (z : Int) - 2147483648 = a := by rw [ha, hz]; rfl
      rw [← hz] at n1
      have hz4 : z < 4294967296 := by omega
      have s1 : IntKind.i64.wrap (z : Int) = (z : Int) := by rw [IntKind.wrap_i64]; omega
      have HZA := Lib.hid hza
      have HA := Lib.hid ha
      have HQ := Lib.hid hq
      have hq6 : q < 281474976710656 := by rw [hq]; exact n2
      have ha4 : -2147483648 ≤ a ∧ a < 2147483648 := by omega
      have g4 : (4 : Int) ≤ (S'.size : Int) := by omega
      have g10 : (10 : Int) ≤ (S'.size : Int) := by omega
      clear e2 e3 n1 n2 ha hq hz hza
      go_wp2_with fail
      refine (K1.out wr).mono ?_
      rintro e w3 ⟨rfl, rfl⟩
      go_wp2_with fail
      refine (K2.out wr).mono ?_
      rintro e w3 ⟨rfl, rfl⟩
      rw [HZA.out]
      obtain ⟨v0, hc0, hown0⟩ := HG.out.ex
      have p0 : wr.cell? ⟨p, 0, none⟩ = some (.int .i64 b) := by simp [World.cell?, hc0]
      have OW := Lib.hid hown0
      have HC := Lib.hid hc0
      obtain ⟨lo, hlo⟩ : ∃ lo : Int × Int, lo = if -(mostN b : Int) - 1 ≤ a ∧ a ≤ mostN b then (loZ b a, hiZ b a) else (0, 0) := ⟨_, rfl⟩
      obtain ⟨ok, hok⟩ : ∃ ok : Bool, ok = decide (-(mostN b : Int) - 1 ≤ a ∧ a ≤ mostN b) := ⟨_, rfl⟩
      have KB := Lib.hid (show Calls Try.prog 72 #[.int .i64 b, .int .i64 a] wr fun e w' => e = .returned (.tuple #[.int .i64 lo.1, .int .i64 lo.2, .bool ok]) ∧ Below wr.heap.size wr w' by
        by_cases hh : -(mostN b : Int) - 1 ≤ a ∧ a ≤ mostN b
        · rw [hlo, hok, if_pos hh, decide_eq_true hh]
          exact rBounds_yes b hb a hh.1 hh.2 wr
        · rw [hlo, hok, if_neg hh, decide_eq_false hh]
          exact rBounds_no b hb a hh (by unfold I64; omega) wr)
      have hTT := HO.out.total
      obtain ⟨T, hT⟩ : ∃ T, T = total acc := ⟨_, rfl⟩
      rw [← hT] at hTT
      have EOK := Lib.hid (show itOk b S'.data.toList last acc = (ok && decide (q ≠ 0) && decide (last < a) && decide (q ≤ 1099511627776 - T)) by rw [hok, hT, HA.out, HQ.out]; rfl)
      have EST := Lib.hid (show itOk b S'.data.toList last acc = true → (1 ≤ q ∧ -(mostN b : Int) - 1 ≤ a ∧ a ≤ mostN b ∧ last < a ∧ total acc + q ≤ 1099511627776) from fun h => by
        rw [EOK.out, hok] at h
        simp only [Bool.and_eq_true, decide_eq_true_eq] at h
        omega)
      have HOK := Lib.hid hok
      have HT := Lib.hid hT
      clear hlo hok hT hc0 hown0 K1 K2 s1
      go_wp2_with fail
      refine KB.out.mono ?_
      rintro e w3 ⟨rfl, b3⟩
      have B3 := Lib.hid b3
      have G3 := Lib.hid (HG.out.mono b3)
      clear KB b3 p0 OW HC
      have BE := Lib.hid (BB.out.trans (B3.out.mono BB.out.size))
      cases ok with
      | false =>
        have EN := Lib.hid (show RES = none by rw [HD.out, decI, if_neg (by rw [EOK.out]; simp)])
        go_wp2
        go_ret3
        exact .inl ⟨EN.out, rfl, BE.out⟩
      | true =>
        by_cases hq0 : q = 0
        · have r1 : (((q : Nat) : Int) == 0) = true := by rw [beq_iff_eq]; omega
          have EN := Lib.hid (show RES = none by rw [HD.out, decI, if_neg (by rw [EOK.out, hq0]; simp)])
          clear hq0
          go_wp2
          go_ret3
          exact .inl ⟨EN.out, rfl, BE.out⟩
        have r1 : (((q : Nat) : Int) == 0) = false := by rw [beq_eq_false_iff_ne]; omega
        obtain ⟨v0, hc0, own0⟩ := G3.out.ex
        obtain ⟨R0, row0, hg0⟩ := Row.ofOwns own0
        obtain ⟨av, cp, rfl, hacp, _⟩ := row0.form
        rw [← HI.out] at hc0 own0 row0 hacp
        have c1 : w3.cell? ⟨p, 1, none⟩ = some (.slice av i cp) := cell_of hc0 1 _ rfl
        have ROW := Lib.hid row0
        have OW := Lib.hid own0
        have HC := Lib.hid hc0
        have HQ0 := Lib.hid hq0
        clear hc0 own0 row0 hg0 hq0
        by_cases hla : last < a
        rotate_left
        · have EN := Lib.hid (show RES = none by rw [HD.out, decI, if_neg (by rw [EOK.out]; simp [hla])])
          cases i with
          | zero =>
            exfalso
            have : acc = [] := List.length_eq_zero_iff.1 HI.out.symm
            rcases HLA.out with ⟨_, h⟩ | ⟨r, x, h, _⟩
            · omega
            · rw [this] at h; simp at h
          | succ i =>
            obtain ⟨x, hx, hxl⟩ := HLA.out.at i HI.out.symm
            obtain ⟨g, off, cap', e1, _, _, _, hc⟩ := ROW.out.there (by omega)
            cases e1
            have y0 := (hc _ _ (flat_get acc i x hx).1).1
            rw [hxl] at y0
            have r2 : (0 : Int) < ((i + 1 : Nat) : Int) := by omega
            have r3 : ((i + 1 : Nat) : Int) - 1 = (i : Int) := by omega
            have r4 : decide (a ≤ last) = true := by simp; omega
            clear hc hx hla
            go_wp2
            go_ret3
            exact .inl ⟨EN.out, rfl, BE.out⟩
        have hpw : p < w3.heap.size := heap_lt HC.out
        have OW2 := Lib.hid (OW.out.alloc (.cells #[.int .i64 a, .int .u64 q] 111))
        have A2 : ∀ ad, (some ⟨w3.heap.size, 0, none⟩ : Option Addr) = some ad → ∀ j u, [Value.int .i64 a, .int .u64 q][j]? = some u → (w3.alloc (.cells #[.int .i64 a, .int .u64 q] 111)).cell? (ad.add j) = some u := fun ad e j y hy => by cases e; exact two_new _ _ _ _ j y hy
        have A3 : ∀ u ∈ [Value.int .i64 a, .int .u64 q], u.oneCell' = true := fun u hu => by simp at hu; rcases hu with rfl | rfl <;> rfl
        have A4 : i + 1 ≤ maxLen := by unfold maxLen; omega
        have A5 : (i + 1) * 16 ≤ 140737488355328 := by omega
        have A6 : p + 1 ≤ (w3.alloc (.cells #[.int .i64 a, .int .u64 q] 111)).heap.size := by simp; omega
        have HQP : ¬ q = 0 := HQ0.out
        have HLL := Lib.hid hla
        clear hla HQP
        by_cases hi0' : i = 0
        case' pos =>
          have r2 : decide ((0 : Int) < (i : Int)) = false := by simp; omega
          have r22 : decide (0 < i) = false := by simp; omega
          have r23 : ¬ 0 < i := by omega
          have HI0 := Lib.hid hi0'
          clear hi0'
          go_wp2_with (at_builtin; refine append_any _ rfl _ _ 107 rfl (p + 1) 111 i0 (.agg #[.int .i64 0, .int .u64 0]) 2 16 Try.underlying107 hi0 hz0 hz1 hz2 rfl (by decide) _ i (flat acc) rfl OW2.out (some ⟨w3.heap.size, 0, none⟩) 1 1 [.int .i64 a, .int .u64 q] rfl (fun e => nomatch e) rfl A2 A3 A4 A5 A6 ?_)
        case' neg =>
          obtain ⟨i', hi'⟩ : ∃ i', i = i' + 1 := ⟨i - 1, by omega⟩
          obtain ⟨x, hx, hxl⟩ := HLA.out.at i' (by rw [← HI.out, hi'])
          obtain ⟨g, off, cap', e1, _, _, _, hc⟩ := ROW.out.there (by omega)
          injection e1 with e1 _ e2
          subst e2
          have E1 := Lib.hid e1
          rw [e1] at c1 OW2
          have y0 := (hc _ _ (flat_get acc i' x hx).1).1
          rw [hxl] at y0
          have r2 : decide ((0 : Int) < (i : Int)) = true := by simp; omega
          have r3 : (i : Int) - 1 = (i' : Int) := by omega
          have r4 : decide (a ≤ last) = false := by have := HLL.out; simp; omega
          have r5 : (i' : Int) < (i : Int) := by omega
          have r6 : wrap64 ((i : Int) - 1) = (i' : Int) := by unfold wrap64; omega
          have r7 : i' < i := by omega
          have HI0 := Lib.hid hi'
          clear hc hx hi' e1 hi0'
          go_wp2_with (at_builtin; refine append_any _ rfl _ _ 107 rfl (p + 1) 111 i0 (.agg #[.int .i64 0, .int .u64 0]) 2 16 Try.underlying107 hi0 hz0 hz1 hz2 rfl (by decide) _ i (flat acc) rfl OW2.out (some ⟨w3.heap.size, 0, none⟩) 1 1 [.int .i64 a, .int .u64 q] rfl (fun e => nomatch e) rfl A2 A3 A4 A5 A6 ?_)
        all_goals
          intro v4 w4 o4 b4
          have HP4 := Lib.hid ((b4.block p (by omega)).trans (((Below.refl w3.heap.size w3).alloc (Nat.le_refl _) (.cells #[.int .i64 a, .int .u64 q] 111)).block p hpw |>.trans HC.out))
          have f1 : w4.frozen? ⟨p, 1, none⟩ = false := by simp [World.frozen?, HP4.out]
          have c9 := cell_of HP4.out 1 _ rfl
          obtain ⟨M, hM⟩ : ∃ M, M = moreL acc a q := ⟨_, rfl⟩
          have EM : M = acc ++ [(a, q)] := by
            rw [hM]
            exact moreL_end acc a q fun y hy => by have := HLA.out.le HO.out.rise y hy; have := HLL.out; omega
          have EL : M.length = i + 1 := by rw [EM, List.length_append, ← HI.out]; rfl
          have o5 : w4.ownsRow (p + 1) 111 2 v4 M.length (flat M) := by rw [EL, EM, flat_append]; exact o4
          obtain ⟨G5, r5, g5⟩ := Row.ofOwns o5
          obtain ⟨a4, c4, rfl, _, _⟩ := r5.form
          have hpB : w.heap.size ≤ p := Nat.le_of_eq HP.out.symm
          have B4 := Lib.hid (show Below w.heap.size w w4 from (BE.out.alloc BE.out.size _).trans (b4.mono (by omega)))
          have O5 := Lib.hid o5
          have ET := Lib.hid (show total M = T + q by rw [hM, total_moreL, HT.out])
          have ELM := Lib.hid EL
          have HMM := Lib.hid hM
          have EMM := Lib.hid EM
          clear o4 b4 c1 r5 g5 o5 hM EM EL A2 A3 A4 A5 A6 OW2 OW ROW r1 hacp
          go_wp2_with fail
          obtain ⟨w5, hw5⟩ : ∃ w5, w5 = w4.setCell ⟨p, 1, none⟩ (.slice a4 M.length c4) := ⟨_, rfl⟩
          rw [← hw5]
          have RG5 := Lib.hid (show RGot w5 p b M from ⟨_, by rw [hw5]; exact set_at HP4.out 1 _, owns_same O5.out fun g h1 _ => by rw [hw5]; exact Below.heap_setCell w4 ⟨p, 1, none⟩ _ g (fun e => (by have e' : g = p := e; omega))⟩)
          have B5 := Lib.hid (show Below w.heap.size w w5 from B4.out.trans (by rw [hw5]; exact (Chg.set w4 p 1 _).below (fun k e => (by have e' : k = p := e; omega)) B4.out.size))
          obtain ⟨G5, h5, g5⟩ := RG5.out.hist
          have hl5 := HO.out.len
          have KC := Lib.hid (rCount_any h5 (by rw [ELM.out]; have := HI.out; omega) (by rw [ET.out]; omega))
          clear hw5 h5 g5 c9 f1 HP4 hl5
          refine KC.out.mono ?_
          rintro e w6 ⟨rfl, rfl⟩
          clear KC
          rw [ET.out, Int.natCast_add]
          by_cases hq2 : q ≤ 1099511627776 - T
          rotate_left
          · have t5 : decide (1099511627776 < (T : Int) + (q : Int)) = true := by simp; omega
            have EN := Lib.hid (show RES = none by rw [HD.out, decI, if_neg (by rw [EOK.out]; simp [hq2])])
            clear hq2
            go_wp2
            go_ret3
            exact .inl ⟨EN.out, rfl, B5.out⟩
          · have t5 : decide (1099511627776 < (T : Int) + (q : Int)) = false := by simp; omega
            have hit : itOk b S'.data.toList last acc = true := by
              rw [EOK.out]
              have := HQ0.out
              have := HLL.out
              simp
              omega
            have ES := EST.out hit
            have ED := Lib.hid (show RES = decI b k (S'.data.toList.drop 10) a M by
              rw [HD.out, decI, if_pos hit, ← HA.out, ← HQ.out, HMM.out])
            have EO := Lib.hid (show HOk b M by rw [HMM.out]; exact HO.out.more ES.1 ES.2.2.2.2 ⟨ES.2.1, ES.2.2.1⟩)
            have hsz := ext_size S' 10 S'.size (Nat.le_refl _) (by omega)
            have hsl := Lib.extract_to_end S' 10
            obtain ⟨S2, hS2⟩ : ∃ S2, S2 = S'.extract 10 S'.size := ⟨_, rfl⟩
            rw [← hS2] at hsz hsl ⊢
            rw [← hsl] at ED
            clear hit ES hsl hS2 hq2
            go_wp2
            go_roundw
            case rel => exact ⟨k, i + 1, S2, a, M, rfl, by go_num, ELM.out.symm, by omega, by omega, by omega, ED.out, by rw [EMM.out]; exact LastIs.snoc _ _ _, RG5.out, EO.out, B5.out⟩
            case measure => simp [intOf]; omega
/-- What Get answers. -/
def RGetAns (w : World) (s : ByteArray) (e : Ending) (w' : World) : Prop :=
  (decL s.data.toList = none ∧ e = .returned (.tuple #[.pointer none, .string ⟨#[]⟩, .int .i64 2]) ∧ Below w.heap.size w w') ∨
  ∃ (b : Nat) (l : IL) (r : ByteArray) (p : Nat) (G : List Nat), decL s.data.toList = some (b, l, r.data.toList) ∧ e = .returned (.tuple #[.pointer (some ⟨p, 0, none⟩), .string r, .int .i64 0]) ∧ RHistAt w' p G b l ∧ HOk b l ∧ (∀ g ∈ G, w.heap.size ≤ g) ∧ Below w.heap.size w w'
set_option maxHeartbeats 1000000 in
set_option maxRecDepth 20000 in
theorem rGet_short (s : ByteArray) (w : World) (h : s.size < 3) :
    Calls Try.prog 48 #[.string s] w fun e w' => e = .returned (.tuple #[.pointer none, .string ⟨#[]⟩, .int .i64 2]) ∧ Below w.heap.size w w' := by
  have t0 : decide ((s.size : Int) < 3) = true := by simp; omega
  go_enter Try.func48, Try.ntmps48
  go_wp2
  go_ret3
  exact ⟨rfl, Below.refl _ _⟩
set_option maxHeartbeats 1000000 in
set_option maxRecDepth 20000 in
theorem rGet_bits (s : ByteArray) (w : World) (h : 3 ≤ s.size) (hb : 4 < num (s.data.toList.take 1)) :
    Calls Try.prog 48 #[.string s] w fun e w' => e = .returned (.tuple #[.pointer none, .string ⟨#[]⟩, .int .i64 2]) ∧ Below w.heap.size w w' := by
  have t0 : decide ((s.size : Int) < 3) = false := by simp; omega
  have h3' : (3 : Int) ≤ s.size := by omega
  obtain ⟨b, hb0⟩ : ∃ b, b = num (s.data.toList.take 1) := ⟨_, rfl⟩
  rw [← hb0] at hb
  have e00 : (((s[0]'(by omega)).toNat : Nat) : Int) = (b : Int) := by
    rw [hb0, take_byte s 0 (by omega)]; simp [num]
  have t00 : decide ((4 : Int) < (b : Int)) = true := by simp; omega
  clear hb0
  go_enter Try.func48, Try.ntmps48
  go_wp2
  go_ret3
  exact ⟨rfl, Below.refl _ _⟩
set_option maxHeartbeats 1000000 in
set_option maxRecDepth 20000 in
theorem rGet_lack (s : ByteArray) (w : World) (hs : s.size ≤ 140737488355328) (h : 3 ≤ s.size) (hb : num (s.data.toList.take 1) ≤ 4) (hl : s.size < 3 + 10 * num ((s.data.toList.drop 1).take 2)) :
    Calls Try.prog 48 #[.string s] w fun e w' => e = .returned (.tuple #[.pointer none, .string ⟨#[]⟩, .int .i64 2]) ∧ Below w.heap.size w w' := by
  have t0 : decide ((s.size : Int) < 3) = false := by simp; omega
  have h3' : (3 : Int) ≤ s.size := by omega
  obtain ⟨b, hb0⟩ : ∃ b, b = num (s.data.toList.take 1) := ⟨_, rfl⟩
  rw [← hb0] at hb
  have eb : num (s.data.toList.take 1) = (s[0]'(by omega)).toNat := by
    rw [take_byte s 0 (by omega)]; simp [num]
  have e0 : wrap64 (((s[0]'(by omega)).toNat : Nat) : Int) = (b : Int) := by
    rw [hb0, eb]; unfold wrap64; have := (s[0]'(by omega)).toNat_lt; omega
  have e00 : (((s[0]'(by omega)).toNat : Nat) : Int) = (b : Int) := by rw [hb0, eb]
  have t00 : decide ((4 : Int) < (b : Int)) = false := by simp; omega
  have e1 : (s.extract 1 3).data.toList = (s.data.toList.drop 1).take 2 := by rw [Lib.extract_data]
  have KG := Lib.hid (fun u : World => rNumber_any (s.extract 1 3) u (by rw [ext_size _ _ _ (by omega) (by omega)]; omega))
  have hq2 := num_two (s.data.toList.drop 1) 2
  rw [e1] at KG
  obtain ⟨q, hq⟩ : ∃ q, q = num ((s.data.toList.drop 1).take 2) := ⟨_, rfl⟩
  rw [← hq] at hl hq2 KG
  clear hb0 eb hq e1
  go_enter Try.func48, Try.ntmps48
  go_wp2_with fail
  refine (rNew_yes b w hb).mono ?_
  rintro e w1 ⟨rfl, _, b1⟩
  have B1 := Lib.hid b1
  clear b1
  go_wp2_with fail
  refine (KG.out w1).mono ?_
  rintro e w2 ⟨rfl, rfl⟩
  have hq3 : q < 65536 := by omega
  have t1 : decide (((s.size - 3 : Nat) : Int) < 10 * (q : Int)) = true := by simp; omega
  clear e0 e00 t00 KG hl hq2
  go_wp2
  go_ret3
  exact ⟨rfl, B1.out⟩
theorem rGet_any (s : ByteArray) (w : World) (hs : s.size ≤ 140737488355328) : Calls Try.prog 48 #[.string s] w (RGetAns w s) := by
  have hll : s.data.toList.length = s.size := by rw [Array.length_toList]; rfl
  by_cases h : s.size < 3
  · exact (rGet_short s w h).mono fun e w' hh => .inl ⟨by unfold decL; rw [hll, if_pos h], hh⟩
  by_cases hb : 4 < num (s.data.toList.take 1)
  · exact (rGet_bits s w (by omega) hb).mono fun e w' hh => .inl ⟨by unfold decL; rw [hll, if_neg h, if_pos hb], hh⟩
  by_cases hl : s.size < 3 + 10 * num ((s.data.toList.drop 1).take 2)
  · exact (rGet_lack s w hs (by omega) (by omega) hl).mono fun e w' hh => .inl ⟨by unfold decL; rw [hll, if_neg h, if_neg hb, if_pos hl], hh⟩
  · refine (rGet_walk s w hs _ (by omega) (by omega) rfl (by omega)).mono fun e w' hh => ?_
    have ed : decL s.data.toList = (decI (num (s.data.toList.take 1)) (num ((s.data.toList.drop 1).take 2)) (s.data.toList.drop 3) (-2147483649) []).map fun x => (num (s.data.toList.take 1), x) := by
      unfold decL; rw [hll, if_neg h, if_neg hb, if_neg hl]
    rcases hh with ⟨h1, h2⟩ | ⟨l, r, p, G, h1, h2⟩
    · exact .inl ⟨by rw [ed, h1]; rfl, h2⟩
    · exact .inr ⟨_, l, r, p, G, by rw [ed, h1]; rfl, h2⟩
end Go.Proofs.Ytgafnilcmhjpcaa.HHist
