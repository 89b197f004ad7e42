/- Cells: Spread, Move, Copy, walked. Conditions: the numbers are of their kinds' ranges. -/
import Derived.Test.YtgafnilcmhjpcaaCell4
namespace Go.Proofs.Ytgafnilcmhjpcaa.HCell
set_option linter.unusedVariables false
open Go.RowKit Go.Proofs.Ytgafnilcmhjpcaa.HMem Go.Proofs.Ytgafnilcmhjpcaa.HHist Go.Proofs.Ytgafnilcmhjpcaa.HWide
open Go.Proofs.Ytgafnilcmhjpcaa.Print (I64)

theorem moreL_end : ∀ (l : IL) (a : Int) (m : Nat), (∀ y ∈ l, y.1 < a) → moreL l a m = l ++ [(a, m)]
  | [], a, m, _ => rfl
  | x :: r, a, m, h => by
    unfold moreL
    rw [if_pos (h x (by simp)), moreL_end r a m fun y hy => h y (by simp [hy])]
    rfl
theorem foldL_self : ∀ (r acc : IL), Rise (acc ++ r) → foldL acc r = acc ++ r
  | [], acc, _ => by simp [foldL]
  | x :: r, acc, h => by
    have hb : ∀ y ∈ acc, y.1 < x.1 := fun y hy => (List.pairwise_append.1 h).2.2 y hy x (by simp)
    rw [foldL, moreL_end acc x.1 x.2 hb, foldL_self r (acc ++ [(x.1, x.2)]) (by simpa using h)]
    simp
theorem merge_self {b : Nat} {l : IL} (h : HOk b l) : mergeL b [] b l = (l, 0) := by
  have ht := h.total
  unfold mergeL
  rw [if_neg (by simp), if_neg (by simp only [HHist.total]; omega), foldL_self l [] (by simpa using h.rise)]
  rfl
set_option maxHeartbeats 2000000 in
theorem Spread_any {w : World} {p : Nat} {G : List Nat} {c : CM} (k : CellAt w p G c) (ho : COk c) :
    Calls Try.prog 25 #[.pointer (some ⟨p, 0, none⟩)] w fun e w' => ∃ q F, e = .returned (.pointer (some ⟨q, 0, none⟩)) ∧ HistAt w' q F c.b c.l ∧ (∀ g ∈ F, w.heap.size ≤ g) ∧ Below w.heap.size w w' := by
  obtain ⟨h, R, rfl, hpR, kc, kh⟩ := k.ex
  obtain ⟨c0, _⟩ := kc.cells
  have KC := Lib.hid kc
  have KH := Lib.hid kh
  have HO := Lib.hid ho
  clear k kc kh hpR ho
  go_enter Try.func25, Try.ntmps25
  go_wp2_with fail
  refine (Bits_any KH.out).mono ?_
  rintro e w0 ⟨rfl, rfl⟩
  go_wp2_with fail
  refine (HHist.New_yes c.b w HO.out.h.bits).mono ?_
  rintro e w1 ⟨rfl, h1, b1⟩
  obtain ⟨q, hq⟩ : ∃ q, q = w.heap.size := ⟨_, rfl⟩
  rw [← hq] at h1 ⊢
  have H1 := Lib.hid h1
  have B1 := Lib.hid b1
  have HQ := Lib.hid hq
  replace c0 := (b1.cell KC.out.lt).trans c0
  have M := Lib.hid (HHist.Merge_any h1 (KH.out.mono b1) (HOk.nil HO.out.h.bits) HO.out.h (fun x hx hm => by
    simp at hx
    have := (KH.out.own.mem x hm).2
    omega))
  clear h1 b1 hq
  go_wp2_with fail
  refine M.out.mono ?_
  rintro e w2 ⟨rfl, F, h2, t2⟩
  rw [merge_self HO.out.h] at h2
  have H2 := Lib.hid h2
  have RES := Lib.hid (show (∀ g ∈ F, w.heap.size ≤ g) ∧ Below w.heap.size w w2 from by
    refine ⟨fun g hg => ?_, B1.out.trans (t2.chg.below (fun k hk => ?_) B1.out.size)⟩
    · rcases t2.foot g hg with h | h
      · simp at h; rw [h, HQ.out]; exact Nat.le_refl _
      · exact Nat.le_trans B1.out.size h
    · simp at hk; rw [hk, HQ.out]; exact Nat.le_refl _)
  clear h2 t2 M c0
  go_wp2
  go_ret
  exact ⟨q, F, rfl, H2.out, RES.out.1, RES.out.2⟩
/-- Another one that is the same, but begins elsewhere. -/
def moveC (c : CM) (fr : Int) : CM := { c with fr := fr }
theorem COk.move {c : CM} (h : COk c) {fr : Int} (hf : I64 fr) : COk (moveC c fr) := ⟨h.h, h.rng, hf, h.lo, h.hi⟩
def Fresh (w : World) (c : CM) (e : Ending) (w' : World) : Prop := ∃ q F, e = .returned (.pointer (some ⟨q, 0, none⟩)) ∧ CellAt w' q F c ∧ (∀ g ∈ F, w.heap.size ≤ g) ∧ Below w.heap.size w w'
set_option maxHeartbeats 2000000 in
theorem Move_any {w : World} {p : Nat} {G : List Nat} {c : CM} (k : CellAt w p G c) (ho : COk c) (fr : Int) :
    Calls Try.prog 34 #[.pointer (some ⟨p, 0, none⟩), .int .i64 fr] w (Fresh w (moveC c fr)) := by
  obtain ⟨h, R, hG, hpR, kc, kh⟩ := k.ex
  obtain ⟨c0, c1, c2, c3, c4, c5⟩ := kc.cells
  have K := Lib.hid k
  have HO := Lib.hid ho
  clear k kc kh hpR ho hG
  go_enter Try.func34, Try.ntmps34
  obtain ⟨P, hP⟩ : ∃ P, P = w.heap.size := ⟨_, rfl⟩
  obtain ⟨W, hW⟩ : ∃ W, W = w.alloc (.cells #[.pointer (some ⟨h, 0, none⟩), .int .i64 c.fr, .int .i64 c.s.1, .int .u64 c.s.2, .int .i64 c.lo, .int .i64 c.hi] 55) := ⟨_, rfl⟩
  have b0 : Below w.heap.size w W := by rw [hW]; exact (Below.refl _ _).alloc (Nat.le_refl _) _
  have KP := Lib.hid (show Cb W P h c by rw [hW, hP]; exact heap_alloc_new w _)
  have B0 := Lib.hid b0
  have HPL := Lib.hid hP
  clear b0
  go_wp2_with fail
  rw [← hW, ← hP]
  clear hW hP c0 c1 c2 c3 c4 c5
  refine (Spread_any (K.out.mono B0.out) HO.out).mono ?_
  rintro e w1 ⟨q, F, rfl, h1, hF, b1⟩
  have k1 := KP.out.mono b1
  obtain ⟨c0, c1, _⟩ := k1.cells
  have f0 := k1.frozen 0
  have f1 := k1.frozen 1
  have RES := Lib.hid (show Fresh w (moveC c fr) (.returned (.pointer (some ⟨P, 0, none⟩))) ((w1.setCell ⟨P, 0, none⟩ (.pointer (some ⟨q, 0, none⟩))).setCell ⟨P, 1, none⟩ (.int .i64 fr)) by
    have hPW := KP.out.lt
    have hPF : P ∉ F := fun hm => by have := hF P hm; omega
    have hB := B0.out.size
    refine ⟨P, P :: F, rfl, ⟨⟨q, F, rfl, hPF, set_at (set_at k1 0 (.pointer (some ⟨q, 0, none⟩))) 1 (.int .i64 fr), ?_⟩⟩, fun g hg => ?_, ?_⟩
    · refine h1.same fun g hg => ?_
      have hne : g ≠ P := fun e => hPF (e ▸ hg)
      rw [Below.heap_setCell _ _ _ _ hne, Below.heap_setCell _ _ _ _ hne]
    · rcases List.mem_cons.1 hg with rfl | hg
      · exact Nat.le_of_eq HPL.out.symm
      · exact Nat.le_trans hB (hF g hg)
    · have hle : w.heap.size ≤ P := Nat.le_of_eq HPL.out.symm
      exact Below.setCell (Below.setCell (B0.out.trans (b1.mono hB)) (show w.heap.size ≤ (Addr.block ⟨P, 0, none⟩) from hle) _) (show w.heap.size ≤ (Addr.block ⟨P, 1, none⟩) from hle) _)
  clear h1 hF b1 k1
  go_wp2
  go_ret
  exact RES.out
theorem Copy_any {w : World} {p : Nat} {G : List Nat} {c : CM} (k : CellAt w p G c) (ho : COk c) :
    Calls Try.prog 23 #[.pointer (some ⟨p, 0, none⟩)] w (Fresh w c) := by
  obtain ⟨h, R, hG, hpR, kc, kh⟩ := k.ex
  obtain ⟨c0, c1, _⟩ := kc.cells
  have M := Lib.hid (Move_any k ho c.fr)
  clear k kc kh hpR ho hG
  go_enter Try.func23, Try.ntmps23
  go_wp2_with fail
  refine M.out.mono ?_
  rintro e w1 ⟨q, F, rfl, h1, hF, b1⟩
  have RES := Lib.hid (show Fresh w c (.returned (.pointer (some ⟨q, 0, none⟩))) w1 from ⟨q, F, rfl, h1, hF, b1⟩)
  clear h1 hF b1 M
  go_wp2
  go_ret
  exact RES.out
end Go.Proofs.Ytgafnilcmhjpcaa.HCell
