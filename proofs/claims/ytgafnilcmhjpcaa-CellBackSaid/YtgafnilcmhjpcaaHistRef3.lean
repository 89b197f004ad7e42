/- The reference's histogram, walked: Bytes. -/
import Derived.Test.YtgafnilcmhjpcaaHistRef2
namespace Go.Proofs.Ytgafnilcmhjpcaa.HHist
set_option linter.unusedVariables false
open Go.RowKit Go.Proofs.Ytgafnilcmhjpcaa.HMem Go.Proofs.Ytgafnilcmhjpcaa.HBucket
open Go.Proofs.Ytgafnilcmhjpcaa.Print (I64)

set_option maxHeartbeats 1000000 in
set_option maxRecDepth 20000 in
theorem rBytes_any (w : World) (N s : Nat) (hN : N < 18446744073709551616) (hs : s ≤ 8) (hs1 : 1 ≤ s) :
    Calls Try.prog 44 #[.int .u64 N, .int .i64 s] w fun e w' => e = .returned (.string (strOfNums (be N s))) ∧ Below w.heap.size w w' := by
  obtain ⟨B, hB⟩ : ∃ B, B = w.heap.size := ⟨_, rfl⟩
  have HB := Lib.hid hB
  clear hB
  obtain ⟨i0, hi, hz0, hz1, hz2⟩ := info_parts infoB
  go_enter Try.func44, Try.ntmps44
  go_wp2_with fail
  go_loopw [5, 6] (fun v1 k wr => ∃ (j : Nat) (ys : List Int), j ≤ s ∧ k = .int .i64 ((j : Int) - 1) ∧ ys.length = s - j ∧ ys ++ be N j = be N s ∧ wr.ownsRow B 5 1 v1 ys.length (vb ys) ∧ Below B w wr) (fun _ k _ => (intOf k + 1).toNat)
  case atStart => exact ⟨s, [], Nat.le_refl _, by go_num, by simp, rfl, ⟨rfl, .inl ⟨rfl, rfl⟩⟩, Below.refl _ _⟩
  case round =>
    obtain ⟨j, ys, hj, rfl, hys, hbe, hown, htn⟩ := hrel
    have BE := Lib.hid hbe
    have TN := Lib.hid htn
    have YS := Lib.hid hys
    clear hbe htn hys
    cases j with
    | zero =>
      have hj1 : ¬ (0 : Int) ≤ ((0 : Nat) : Int) - 1 := by omega
      have OE : wr.ownsRow B 5 1 u5 s (vb (be N s)) := by
        have := BE.out
        simp only [be, List.append_nil] at this
        have h := hown
        rw [this, be_length] at h
        exact h
      clear hown
      rcases OE.2 with ⟨rfl, h0⟩ | ⟨g, cap2, cur, rfl, h2, h3, h4, h5, h6, h7⟩
      · omega
      · have hcv := run_convert_bytes_arg (P := Try.prog) wr 79 5 Try.underlying79 Try.underlying5 g 0 s cap2 (be N s) (be_length N s) (fun i hi => by
          have hc := OE.cellAt i (by omega)
          rw [Nat.zero_add, hc]
          have hi' : i < (be N s).length := by rw [be_length]; exact hi
          simp [vb, List.getD_eq_getElem?_getD, List.getElem?_eq_getElem hi']) 9 Try.underlying9
        clear OE h2 h3 h4 h5 h6 h7
        go_wp2
        go_ret
        exact ⟨rfl, by rw [← HB.out]; exact TN.out⟩
    | succ j =>
      have t1 : ((j + 1 : Nat) : Int) - 1 = (j : Int) := by omega
      rw [t1]
      have t2 : (0 : Int) ≤ (j : Int) := by omega
      have t3 : (j : Int) ≤ 7 := by omega
      have t4 : ((8 : Int) * (j : Int)).toNat = 8 * j := by omega
      have hlen : ys.length ≤ 8 := by have := YS.out; omega
      obtain ⟨n, hn⟩ : ∃ n, n = ys.length := ⟨_, rfl⟩
      rw [← hn] at hown hlen
      have HNN := Lib.hid hn
      have HX := Lib.hid (show ((N / 2 ^ (8 * j) % 256 : Nat) : Int) = (N : Int) / 2 ^ (8 * j) % 256 by simp)
      have hBw : B ≤ wr.heap.size := by have h1 := TN.out.size; have h2 := HB.out; omega
      clear hn t1
      go_wp2_with (first
        | (at_builtin; refine wpList_append_own_at _ rfl _ _ 79 rfl B 5 i0 (.int .u8 0) 1 1 Try.underlying79 hi hz0 hz1 hz2 rfl (by decide) _ _ _ rfl (hown.alloc _) ⟨wr.heap.size, 0, none⟩ 1 1 [.int .u8 ((N : Int) / 2 ^ (8 * j) % 256)] rfl rfl ?c1 ?c2 ?c3 ?c4 ?c5 ?_)
        | fail)
      case c1 => exact cell_one_new _ _ _
      case c2 => intro u hu; simp at hu; subst hu; rfl
      case c3 => unfold maxLen; omega
      case c4 => omega
      case c5 => exact Nat.le_trans hBw (by simp)
      intro v' w1 hown' hgrow _ hat
      have hrow : ∀ k, u5.ownBlock = some k → B ≤ k := by
        intro k hk
        rcases hown.2 with ⟨rfl, _⟩ | ⟨g, cap, cur, rfl, hg, _⟩
        · cases hk
        · cases hk; exact hg
      have TW := Lib.hid (show Below B w w1 from (TN.out.alloc hBw _).grown hgrow (Nat.le_trans hBw (by simp)) hrow)
      have O1 := Lib.hid (show w1.ownsRow B 5 1 v' (ys ++ [((N / 2 ^ (8 * j) % 256 : Nat) : Int)]).length (vb (ys ++ [((N / 2 ^ (8 * j) % 256 : Nat) : Int)])) by
        rw [HX.out, List.length_append, ← HNN.out]
        have e : vb (ys ++ [(N : Int) / 2 ^ (8 * j) % 256]) = vb ys ++ [.int .u8 ((N : Int) / 2 ^ (8 * j) % 256)] := by simp [vb]
        rw [e]
        exact hown')
      clear hown' hgrow hown hat hrow
      go_wp2
      go_roundw
      case rel => exact ⟨j, _, by omega, by go_num, by have := YS.out; simp; omega, by rw [List.append_assoc]; exact BE.out, O1.out, TW.out⟩
      case measure => first | (simp [intOf]; done) | (simp [intOf]; omega)
end Go.Proofs.Ytgafnilcmhjpcaa.HHist
