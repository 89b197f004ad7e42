/- Cells: get (the number of eight bytes), Mul64, times, Less, walked. Conditions: the numbers are of their kinds' ranges. -/
import Derived.Test.YtgafnilcmhjpcaaCellPut
import Derived.Test.YtgafnilcmhjpcaaRefAll
import Derived.Deep.LoopGhost
namespace Go.Proofs.Ytgafnilcmhjpcaa.HCell
set_option linter.unusedVariables false
open Go.RowKit Go.Proofs.Ytgafnilcmhjpcaa.HMem Go.Proofs.Ytgafnilcmhjpcaa.HHist Go.Proofs.Ytgafnilcmhjpcaa.HWide
open Go.Proofs.Ytgafnilcmhjpcaa.Print (I64)

theorem or_i64 (N c : Nat) (hN : N < 72057594037927936) (hc : c < 256) : Go.bits .or .i64 (IntKind.i64.wrap ((N : Int) * 256)) (c : Int) = IntKind.i64.wrap ((N * 256 + c : Nat) : Int) := by
  show IntKind.i64.wrap ((BitVec.ofInt 64 (IntKind.i64.wrap ((N : Int) * 256)) ||| BitVec.ofInt 64 (c : Int)).toNat : Int) = _
  have h1 : (BitVec.ofInt 64 (IntKind.i64.wrap ((N : Int) * 256))).toNat = N * 256 := by
    rw [BitVec.toNat_ofInt, IntKind.wrap_i64]
    omega
  have h2 : (BitVec.ofInt 64 (c : Int)).toNat = c := by rw [BitVec.toNat_ofInt]; omega
  rw [BitVec.toNat_or, h1, h2]
  have := Nat.two_pow_add_eq_or_of_lt (i := 8) (b := c) (by omega) N
  rw [show N * 256 = 2 ^ 8 * N by omega, ← this]
/-- The number, with a sign, of the first eight bytes. -/
def i8of (l : List UInt8) : Int := IntKind.i64.wrap (num (l.take 8) : Nat)
theorem i8of_i64 (l : List UInt8) : I64 (i8of l) := by unfold i8of Print.I64; rw [IntKind.wrap_i64]; omega
set_option maxHeartbeats 1000000 in
set_option maxRecDepth 20000 in
theorem get_any (s : ByteArray) (w : World) (hs : 8 ≤ s.size) :
    Calls Try.prog 70 #[.string s] w fun e w' => e = .returned (.int .i64 (i8of s.data.toList)) ∧ w = w' := by
  go_enter Try.func70, Try.ntmps70
  go_wp2_with fail
  go_loopw [2, 3, 4] (fun n _ x wr => ∃ k : Nat, k ≤ 8 ∧ x = .int .i64 k ∧ n = .int .i64 (IntKind.i64.wrap (num (s.data.toList.take k) : Nat)) ∧ w = wr) (fun _ _ x _ => 8 - (intOf x).toNat)
  case atStart => exact ⟨0, Nat.zero_le _, rfl, rfl, rfl⟩
  case round =>
    obtain ⟨k, hk, rfl, rfl, rfl⟩ := hrel
    rcases Nat.lt_or_ge k 8 with hlt | hge
    · have hk1 : (k : Int) < 8 := by omega
      have hks : k < s.size := by omega
      have hks1 : (k : Int) < s.size := by omega
      have hn : num (s.data.toList.take k) < 72057594037927936 := by
        have := num_lt (s.data.toList.take k)
        have h2 : (s.data.toList.take k).length ≤ 7 := by simp; omega
        exact Nat.lt_of_lt_of_le this (Nat.le_trans (Nat.pow_le_pow_right (by decide) h2) (by decide))
      obtain ⟨c, hc⟩ : ∃ c, c = (s[k]'hks).toNat := ⟨_, rfl⟩
      have hc1 : c < 256 := by rw [hc]; exact (s[k]'hks).toNat_lt
      have E := or_i64 (num (s.data.toList.take k)) c hn hc1
      have EN : num (s.data.toList.take (k + 1)) = num (s.data.toList.take k) * 256 + c := by rw [take_byte s k hks, num_snoc, hc]
      rw [← EN] at E
      obtain ⟨m, hm⟩ : ∃ m, m = num (s.data.toList.take k) := ⟨_, rfl⟩
      obtain ⟨m', hm'⟩ : ∃ m', m' = num (s.data.toList.take (k + 1)) := ⟨_, rfl⟩
      rw [← hm, ← hm'] at E
      rw [← hm] at hn ⊢
      have ew : IntKind.i64.wrap (m : Int) = (m : Int) := by rw [IntKind.wrap_i64]; omega
      rw [ew]
      have HM' := Lib.hid hm'
      have HLT := Lib.hid hlt
      clear hm hm' EN ew hlt
      go_wp2
      go_roundw
      case rel => exact ⟨k + 1, HLT.out, by go_num, by rw [← HM'.out, ← E, hc]; first | rfl | simp [IntKind.wrap_i64, wrap64], trivial⟩
      case measure => have := HLT.out; simp [intOf]; omega
    · obtain rfl : k = 8 := by omega
      go_wp2
      go_ret
      exact ⟨rfl, rfl⟩
end Go.Proofs.Ytgafnilcmhjpcaa.HCell
