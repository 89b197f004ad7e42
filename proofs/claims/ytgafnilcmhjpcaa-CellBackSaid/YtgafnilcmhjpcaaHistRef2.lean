/- The reference's histogram, walked: Rank, Number. -/
import Derived.Test.YtgafnilcmhjpcaaHistRef
namespace Go.Proofs.Ytgafnilcmhjpcaa.HHist
set_option linter.unusedVariables false
open Go.RowKit Go.Proofs.Ytgafnilcmhjpcaa.HMem Go.Proofs.Ytgafnilcmhjpcaa.HBucket
open Go.Proofs.Ytgafnilcmhjpcaa.Print (I64)

set_option maxHeartbeats 1000000 in
set_option maxRecDepth 20000 in
theorem rNumber_any (s : ByteArray) (w : World) (hs : s.size ≤ 8) :
    Calls Try.prog 49 #[.string s] w fun e w' => e = .returned (.int .u64 (num s.data.toList : Nat)) ∧ w = w' := by
  go_enter Try.func49, Try.ntmps49
  go_wp2
  go_loop [3, 4] (fun n x => ∃ k : Nat, k ≤ s.size ∧ x = .int .i64 k ∧ n = .int .u64 (num (s.data.toList.take k) : Nat)) (fun _ x => s.size - (intOf x).toNat)
  case atStart => exact ⟨0, Nat.zero_le _, rfl, rfl⟩
  case round =>
    obtain ⟨k, hk, rfl, rfl⟩ := hrel
    rcases Nat.lt_or_ge k s.size with hlt | hge
    · have hk1 : (k : Int) < s.size := by omega
      have hn : num (s.data.toList.take k) < 72057594037927936 := by
        have := num_lt (s.data.toList.take k)
        have h2 : (s.data.toList.take k).length ≤ 7 := by simp; omega
        exact Nat.lt_of_lt_of_le this (Nat.le_trans (Nat.pow_le_pow_right (by decide) h2) (by decide))
      have E := or_step (num (s.data.toList.take k)) s[k].toNat hn (s[k].toNat_lt)
      have EN : num (s.data.toList.take (k + 1)) = num (s.data.toList.take k) * 256 + s[k].toNat := by rw [take_byte s k hlt, num_snoc]
      rw [← EN] at E
      obtain ⟨m, hm⟩ : ∃ m, m = num (s.data.toList.take k) := ⟨_, rfl⟩
      obtain ⟨m', hm'⟩ : ∃ m', m' = num (s.data.toList.take (k + 1)) := ⟨_, rfl⟩
      rw [← hm, ← hm'] at E
      rw [← hm]
      have HM := Lib.hid hm'
      clear hm hm' EN hn
      go_wp2
      go_round
      case rel => exact ⟨k + 1, by omega, by go_num, by rw [← HM.out]⟩
      case measure => simp [intOf]; omega
    · have hk1 : ¬ (k : Int) < s.size := by omega
      have E := Lib.hid (show s.data.toList.take k = s.data.toList from List.take_of_length_le (by simpa using hge))
      rw [E.out]
      clear hge
      go_wp2
      go_ret
      exact ⟨rfl, rfl⟩
theorem rankZ_some {l : IL} {r : Nat} {a : Int} (h : ¬ r = 0) (e : rankL l r = some a) : rankZ l r = (a, true) := by
  unfold rankZ; rw [if_neg h, e]
theorem rankZ_none {l : IL} {r : Nat} (h : ¬ r = 0) (e : rankL l r = none) : rankZ l r = (0, false) := by
  unfold rankZ; rw [if_neg h, e]
end Go.Proofs.Ytgafnilcmhjpcaa.HHist
