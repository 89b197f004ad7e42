/- Labels: Get; the law's same; the reference's Get, walked. Conditions: sizes. -/
import Derived.Test.YtlmnniajindlgaaLab2
import Derived.Test.YtlmnniajindlgaaLabIdx
namespace Go.Proofs.Ytlmnniajindlgaa.HLab
set_option linter.unusedVariables false
open Go.RowKit Go.Proofs.Ytlmnniajindlgaa.HMem

theorem first_at : ∀ (l : LL) (a : ByteArray), (getL l a = none ∧ ∀ (j : Nat) (x : ByteArray × ByteArray), l[j]? = some x → x.1 ≠ a) ∨ ∃ (m : Nat) (x : ByteArray × ByteArray), l[m]? = some x ∧ x.1 = a ∧ getL l a = some x.2 ∧ ∀ (j : Nat) (y : ByteArray × ByteArray), j < m → l[j]? = some y → y.1 ≠ a
  | [], a => .inl ⟨rfl, fun j x h => by simp at h⟩
  | x :: r, a => by
    by_cases h : x.1 = a
    · exact .inr ⟨0, x, rfl, h, by unfold getL; rw [List.find?_cons_of_pos (by simpa using h)]; rfl, fun j y hj => absurd hj (Nat.not_lt_zero j)⟩
    · have e : getL (x :: r) a = getL r a := by unfold getL; rw [List.find?_cons_of_neg (by simpa using h)]
      rcases first_at r a with ⟨h1, h2⟩ | ⟨m, y, h1, h2, h3, h4⟩
      · refine .inl ⟨by rw [e, h1], fun j y hj => ?_⟩
        cases j with
        | zero => simp at hj; subst hj; exact h
        | succ j => exact h2 j y (by simpa using hj)
      · refine .inr ⟨m + 1, y, by simpa using h1, h2, by rw [e, h3], fun j z hj hz => ?_⟩
        cases j with
        | zero => simp at hz; subst hz; exact h
        | succ j => exact h4 j z (by omega) (by simpa using hz)
/-- What Get answers. -/
def getV (l : LL) (a : ByteArray) : Value := match getL l a with | some v => .tuple #[.string v, .bool true] | none => .tuple #[.string ⟨#[]⟩, .bool false]
theorem getV_some {l : LL} {a v : ByteArray} (h : getL l a = some v) : getV l a = .tuple #[.string v, .bool true] := by unfold getV; rw [h]
theorem getV_none {l : LL} {a : ByteArray} (h : getL l a = none) : getV l a = .tuple #[.string ⟨#[]⟩, .bool false] := by unfold getV; rw [h]
theorem get1_any (a b c : ByteArray) (X : Nat) (w : World) (hx : w.cell? ⟨X, 0, none⟩ = some (.string c)) :
    Calls Try.prog 46 #[.agg #[.string a, .string b], .pointer (some ⟨X, 0, none⟩)] w fun e w' => e = .returned (.bool (decide (a = c))) ∧ Below w.heap.size w w' := by
  have e : (a.toList == c.toList) = decide (a = c) := eq_lt a c
  have hc : ∀ o, (w.alloc o).cell? ⟨X, 0, none⟩ = some (.string c) := fun o => (((Below.refl _ _).alloc (Nat.le_refl _) o).cell (World.block_lt_of_cell? _ _ hx)).trans hx
  go_enter Try.func46, Try.ntmps46
  go_wp2
  go_ret
  exact ⟨by first | rfl | (rw [← e]; rfl) | simp [e], (Below.refl _ _).alloc (Nat.le_refl _) _⟩
set_option maxHeartbeats 2000000 in
set_option maxRecDepth 20000 in
theorem Get_any (w : World) (v : Value) (l : LL) (c : ByteArray) (hv : LRow w v l) (hl : l.length ≤ 4398046511000) :
    Calls Try.prog 24 #[v, .string c] w fun e w' => e = .returned (getV l c) ∧ Below w.heap.size w w' := by
  obtain ⟨av, cv, e, _⟩ := id hv
  subst e
  have HV := Lib.hid hv
  obtain ⟨n, hn⟩ : ∃ n, n = l.length := ⟨_, rfl⟩
  rw [← hn] at hl HV ⊢
  have HN := Lib.hid hn
  clear hv hn
  go_enter Try.func24, Try.ntmps24
  go_wp2_with fail
  obtain ⟨W, hW⟩ : ∃ W, W = w.alloc (.cells #[.string c] 9) := ⟨_, rfl⟩
  obtain ⟨X, hX⟩ : ∃ X, X = w.heap.size := ⟨_, rfl⟩
  have BW := Lib.hid (show Below w.heap.size w W by rw [hW]; exact (Below.refl _ _).alloc (Nat.le_refl _) _)
  have x0 : W.cell? ⟨X, 0, none⟩ = some (.string c) := by rw [hW, hX, new_cell]; rfl
  have HVW := Lib.hid (HV.out.mono BW.out)
  rw [← hW, ← hX]
  clear hW hX
  have hget : ∀ h, h < n → l[h]? = some (l.getD h (⟨#[]⟩, ⟨#[]⟩)) := fun h hh => by rw [List.getD_eq_getElem?_getD, List.getElem?_eq_getElem (by rw [← HN.out]; exact hh)]; rfl
  have hba : 0 < n → ∃ ad, av = some ad ∧ ∀ (k : Nat) w', Below W.heap.size W w' → ∀ h, h < n → w'.cell? (ad.add (h * 2)) = some (Value.string (l.getD h (⟨#[]⟩, ⟨#[]⟩)).1) ∧ w'.cell? { block := (ad.add (h * 2)).block, off := (ad.add (h * 2)).off + 1 } = some (Value.string (l.getD h (⟨#[]⟩, ⟨#[]⟩)).2) := fun h0 => by
    obtain ⟨ad, e, _⟩ := HVW.out.at 0 _ (hget 0 h0)
    refine ⟨ad, e, fun k w' hw h hh => ?_⟩
    obtain ⟨ad', e', k1, k2⟩ := HVW.out.at h _ (hget h hh)
    rw [e] at e'; cases e'
    exact ⟨(hw.cell (World.block_lt_of_cell? _ _ k1)).trans k1, (hw.cell (World.block_lt_of_cell? _ _ k2)).trans k2⟩
  have hf : ∀ h, h < n → ∀ w', Below W.heap.size W w' → Calls Try.prog 46 #[.agg #[.string (l.getD h (⟨#[]⟩, ⟨#[]⟩)).1, .string (l.getD h (⟨#[]⟩, ⟨#[]⟩)).2], .pointer (some ⟨X, 0, none⟩)] w' fun e w'' => e = .returned (.bool (decide ((l.getD h (⟨#[]⟩, ⟨#[]⟩)).1 = c))) ∧ Below W.heap.size W w'' := fun h hh w' hw =>
    (get1_any _ _ c X w' ((hw.cell (World.block_lt_of_cell? _ _ x0)).trans x0)).mono fun e w'' ⟨h1, h2⟩ => ⟨h1, hw.trans (h2.mono hw.size)⟩
  rcases first_at l c with ⟨h1, h2⟩ | ⟨m, x, h1, h2, h3, h4⟩
  · have EV := Lib.hid (getV_none h1)
    refine (HLabIdx.no W av n cv (fun h => .string (l.getD h (⟨#[]⟩, ⟨#[]⟩)).1) (fun h => .string (l.getD h (⟨#[]⟩, ⟨#[]⟩)).2) (.pointer (some ⟨X, 0, none⟩)) (fun h => decide ((l.getD h (⟨#[]⟩, ⟨#[]⟩)).1 = c)) (fun _ w' => Below W.heap.size W w') (by omega) hba hf (fun j hj => decide_eq_false (h2 j _ (hget j hj))) (Below.refl _ _)).mono ?_
    rintro e w2 ⟨rfl, b2⟩
    have B2 := Lib.hid (BW.out.trans (b2.mono BW.out.size))
    clear b2 hba hf h2 h1 hget
    go_wp2
    go_ret2
    exact ⟨by rw [EV.out]; rfl, B2.out⟩
  · have EV := Lib.hid (getV_some h3)
    have hm : m < n := by rw [HN.out]; exact (List.getElem?_eq_some_iff.1 h1).1
    have hgm : l.getD m (⟨#[]⟩, ⟨#[]⟩) = x := by rw [List.getD_eq_getElem?_getD, h1]; rfl
    refine (HLabIdx.yes W av n cv (fun h => .string (l.getD h (⟨#[]⟩, ⟨#[]⟩)).1) (fun h => .string (l.getD h (⟨#[]⟩, ⟨#[]⟩)).2) (.pointer (some ⟨X, 0, none⟩)) (fun h => decide ((l.getD h (⟨#[]⟩, ⟨#[]⟩)).1 = c)) (fun _ w' => Below W.heap.size W w') (by omega) hba hf m hm (decide_eq_true (by rw [hgm]; exact h2)) (fun j hj => decide_eq_false (h4 j _ hj (hget j (by omega)))) (Below.refl _ _)).mono ?_
    rintro e w2 ⟨rfl, b2⟩
    obtain ⟨ad, rfl, c0, c1⟩ := (HVW.out.mono b2).at m x h1
    have B2 := Lib.hid (BW.out.trans (b2.mono BW.out.size))
    have hm1 : (m : Int) < n := by omega
    clear b2 hba hf h1 h4 hget hgm hm
    go_wp2
    go_ret2
    exact ⟨by rw [EV.out]; rfl, B2.out⟩
end Go.Proofs.Ytlmnniajindlgaa.HLab
