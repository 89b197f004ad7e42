/- The reference's Get, walked. Conditions: none. -/
import Derived.Test.YtlmnniajindlgaaLab16
namespace Go.Proofs.Ytlmnniajindlgaa.HLab
set_option linter.unusedVariables false
open Go.RowKit Go.Proofs.Ytlmnniajindlgaa.HMem Go.Proofs.Ytlmnniajindlgaa.HBld Go.Proofs.Ytlmnniajindlgaa.HApp

theorem getL_first {l : LL} {c : ByteArray} {j : Nat} {x : ByteArray × ByteArray} (h : l[j]? = some x) (e : x.1 = c) (hn : ∀ i y, i < j → l[i]? = some y → y.1 ≠ c) : getL l c = some x.2 := by
  rcases first_at l c with ⟨h1, h2⟩ | ⟨m, y, h1, h2, h3, h4⟩
  · exact absurd e (h2 j x h)
  · rcases Nat.lt_trichotomy m j with h5 | h5 | h5
    · exact absurd h2 (hn m y h5 h1)
    · subst h5
      rw [h1] at h
      cases h
      exact h3
    · exact absurd e (by first | exact h4 j x h h5 | exact h4 j x h5 h)
theorem getL_never {l : LL} {c : ByteArray} (hn : ∀ i y, i < l.length → l[i]? = some y → y.1 ≠ c) : getL l c = none := by
  rcases first_at l c with ⟨h1, h2⟩ | ⟨m, y, h1, h2, h3, h4⟩
  · exact h1
  · exact absurd h2 (hn m y (List.getElem?_eq_some_iff.1 h1).1 h1)
set_option maxHeartbeats 4000000 in
set_option maxRecDepth 20000 in
theorem rGet_any (w : World) (v : Value) (l : LL) (c : ByteArray) (hv : LRow w v l) : Calls Try.prog 25 #[v, .string c] w fun e w' => e = .returned (getV l c) ∧ Below w.heap.size w w' := by
  obtain ⟨a1, c1, rfl, hcp1, hmx1, _⟩ := id hv
  obtain ⟨m, hm⟩ : ∃ m, m = l.length := ⟨_, rfl⟩
  rw [← hm] at hv ⊢
  have HV := Lib.hid hv
  have HM := Lib.hid hm
  have hmm : m ≤ 9223372036854775807 := by rw [hm]; exact Nat.le_trans hcp1 hmx1
  clear hv hcp1 hmx1 hm
  go_enter Try.func25, Try.ntmps25
  go_wp2_with fail
  go_loopw [6] (fun x wr => ∃ j : Nat, j ≤ m ∧ x = .int .i64 j ∧ (∀ i y, i < j → l[i]? = some y → y.1 ≠ c) ∧ Below w.heap.size w wr) (fun x _ => m - (intOf x).toNat)
  case atStart => exact ⟨0, Nat.zero_le _, rfl, fun i y h => absurd h (Nat.not_lt_zero i), Below.refl _ _⟩
  case round =>
    obtain ⟨j, hj, rfl, hall, bb⟩ := hrel
    have HALL := Lib.hid hall
    have BB := Lib.hid bb
    have HVr := HV.out.mono bb
    clear hall bb
    rcases Nat.lt_or_ge j m with hlt | hge
    · have hj1 : (j : Int) < m := by omega
      obtain ⟨x, hx⟩ : ∃ x, l[j]? = some x := ⟨_, List.getElem?_eq_getElem (by rw [← HM.out]; exact hlt)⟩
      obtain ⟨ad1, e1, x0, x1⟩ := HVr.at j x hx
      subst e1
      have HX := Lib.hid hx
      have HLT := Lib.hid hlt
      obtain ⟨xa, xb⟩ := x
      clear HVr hx hlt
      dsimp only at x0 x1
      have r1 : (xa.toList == c.toList) = decide (xa = c) := eq_lt _ _
      by_cases heq : xa = c
      · rw [decide_eq_true heq] at r1
        have E := Lib.hid (show getV l c = .tuple #[.string xb, .bool true] from getV_some (getL_first HX.out heq HALL.out))
        clear heq
        go_wp2
        go_ret2
        exact ⟨by rw [E.out]; rfl, BB.out⟩
      · rw [decide_eq_false heq] at r1
        have HEQ := Lib.hid heq
        clear heq
        go_wp2
        go_roundw
        case rel => exact ⟨j + 1, HLT.out, by go_num, fun i y hi hy => by
          rcases Nat.lt_or_eq_of_le (Nat.le_of_lt_succ hi) with h | h
          · exact HALL.out i y h hy
          · rw [h, HX.out] at hy
            cases hy
            exact HEQ.out, BB.out⟩
        case measure => have := HLT.out; simp [intOf]; omega
    · have hj1 : ¬ (j : Int) < m := by omega
      have E := Lib.hid (show getV l c = .tuple #[.string ⟨#[]⟩, .bool false] from getV_none (getL_never fun i y hi hy => HALL.out i y (by rw [← HM.out] at hi; omega) hy))
      clear hge
      go_wp2
      go_ret2
      exact ⟨by rw [E.out]; rfl, BB.out⟩
end Go.Proofs.Ytlmnniajindlgaa.HLab
