/- The reference's buckets, walked: Bounds. -/
import Derived.Test.YtgafnilcmhjpcaaHistRef5
import Derived.Test.YtgafnilcmhjpcaaRefBucket
namespace Go.Proofs.Ytgafnilcmhjpcaa.HHist
set_option linter.unusedVariables false
open Go.RowKit Go.Proofs.Ytgafnilcmhjpcaa.HMem Go.Proofs.Ytgafnilcmhjpcaa.HBucket
open Go.Proofs.Ytgafnilcmhjpcaa.Print (I64)

theorem wrap_swap (x y : Int) : IntKind.u64.wrap (IntKind.u64.wrap (x + y) - 1) = IntKind.u64.wrap (x + IntKind.u64.wrap (y - 1)) := by
  simp [IntKind.wrap, IntKind.signed, IntKind.bits]
  congr 1
  omega
theorem rBounds_yes (b : Nat) (hb : b ≤ 4) (a : Int) (h0 : -(mostN b : Int) - 1 ≤ a) (h1 : a ≤ mostN b) (w : World) :
    Calls Try.prog 72 #[.int .i64 b, .int .i64 a] w fun e w' => e = .returned (.tuple #[.int .i64 (loZ b a), .int .i64 (hiZ b a), .bool true]) ∧ Below w.heap.size w w' := by
  have hm := most_lt b hb
  have K := rMost_yes b hb w
  have q := chkB_of b a.natAbs hb (by omega)
  have L := Lib.hid (lo_eq b a.natAbs (by omega) q.1 q.2.1 q.2.2.1)
  have H := Lib.hid (hi_eq b a.natAbs q.1 q.2.2.2.1)
  have Q := Lib.hid q
  have e63 : eN b a.natAbs ≤ 63 := q.1
  clear q
  obtain ⟨M, hM⟩ : ∃ M, M = mostN b := ⟨_, rfl⟩
  rw [← hM] at K hm h0 h1
  have HM := Lib.hid hM
  clear hM
  go_enter Try.func72, Try.ntmps72
  go_wp2_with fail
  refine K.mono ?_
  rintro e w1 ⟨rfl, hb1⟩
  have HB1 := Lib.hid hb1
  clear hb1 K
  have t0 : decide ((M : Int) < 0) = false := decide_eq_false (by omega)
  have t1 : decide ((M : Int) < a) = false := decide_eq_false (by omega)
  have t2 : decide (a < -(M : Int) - 1) = false := decide_eq_false (by omega)
  have W2 : IntKind.u64.wrap (2 * 2 ^ b) = ((2 * 2 ^ b : Nat) : Int) := two_b b hb
  rcases Int.lt_or_le a 0 with hn | hn
  · obtain ⟨m, rfl⟩ : ∃ m : Nat, a = -(m : Int) := ⟨a.natAbs, by omega⟩
    have F := Lib.hid (fin_neg b (-(m : Int)) hn Q.out.2.2.1 Q.out.2.2.2.1)
    rw [Int.natAbs_neg, Int.natAbs_natCast] at L H e63 F
    have hm2 : m < 1058 := by omega
    have hm1 : 1 ≤ m := by omega
    by_cases hbig : 2 * 2 ^ b ≤ m
    · obtain ⟨E, hE⟩ : ∃ E, E = eN b m := ⟨_, rfl⟩
      have hD : m / 2 ^ b = E + 1 := by
        have h2 : 2 ≤ m / 2 ^ b := (Nat.le_div_iff_mul_le (Nat.two_pow_pos b)).2 hbig
        rw [hE]; unfold eN; omega
      have hD' : (m : Int) / 2 ^ b = (E : Int) + 1 := by
        have := congrArg (Nat.cast : Nat → Int) hD
        simpa using this
      have hD'' : IntKind.u64.wrap (2 * 2 ^ b) ≤ (m : Int) := by rw [W2]; omega
      rw [← hE] at L H e63
      have hE9 : E ≤ 63 := e63
      obtain ⟨lo, hlo⟩ : ∃ lo, lo = loN b m := ⟨_, rfl⟩
      obtain ⟨hi, hhi⟩ : ∃ hi, hi = hiN b m := ⟨_, rfl⟩
      rw [← hlo] at L H F
      rw [← hhi] at H F
      have L' := L.out
      have H' := H.out
      rw [← wrap_swap] at H'
      clear hE hD hbig W2 hlo hhi L H
      by_cases ht : 9223372036854775808 < hi
      · have ht' : (9223372036854775808 : Int) < (hi : Int) := by omega
        go_wp2
        go_ret3
        refine ⟨?_, HB1.out⟩
        rw [← F.out.1, ← F.out.2, Int.min_eq_right (by omega)]
        rfl
      · have ht' : ¬ (9223372036854775808 : Int) < (hi : Int) := by omega
        go_wp2
        go_ret3
        refine ⟨?_, HB1.out⟩
        rw [← F.out.1, ← F.out.2, Int.min_eq_left (by omega)]
        rfl
    · have hE : eN b m = 0 := by
        have h2 : m / 2 ^ b < 2 := (Nat.div_lt_iff_lt_mul (Nat.two_pow_pos b)).2 (by omega)
        unfold eN; omega
      have hlo : loN b m = m := by unfold loN; rw [hE]; simp
      have hhi : hiN b m = m := by unfold hiN; rw [hE, hlo]; simp
      have hD'' : ¬ IntKind.u64.wrap (2 * 2 ^ b) ≤ (m : Int) := by rw [W2]; omega
      have hFF := F.out
      rw [hlo, hhi, Int.min_eq_left (by omega)] at hFF
      have FF := Lib.hid hFF
      clear hE hlo hhi hbig W2 hFF
      go_wp2
      go_ret3
      refine ⟨?_, HB1.out⟩
      have e1 : loZ b (-(m : Int)) = -(m : Int) := by rw [← FF.out.1]; unfold wrap64; omega
      have e2 : hiZ b (-(m : Int)) = -(m : Int) := by rw [← FF.out.2]; unfold wrap64; omega
      rw [e1, e2]
      rfl
  · obtain ⟨m, rfl⟩ : ∃ m : Nat, a = m := ⟨a.toNat, by omega⟩
    have F := Lib.hid (fin_pos b (m : Int) hn (Q.out.2.2.2.2 (by rw [← HM.out]; omega)))
    rw [Int.natAbs_natCast] at L H e63 F
    have hm2 : m < 1056 := by omega
    by_cases hbig : 2 * 2 ^ b ≤ m
    · obtain ⟨E, hE⟩ : ∃ E, E = eN b m := ⟨_, rfl⟩
      have hD : m / 2 ^ b = E + 1 := by
        have h2 : 2 ≤ m / 2 ^ b := (Nat.le_div_iff_mul_le (Nat.two_pow_pos b)).2 hbig
        rw [hE]; unfold eN; omega
      have hD' : (m : Int) / 2 ^ b = (E : Int) + 1 := by
        have := congrArg (Nat.cast : Nat → Int) hD
        simpa using this
      have hD'' : IntKind.u64.wrap (2 * 2 ^ b) ≤ (m : Int) := by rw [W2]; omega
      rw [← hE] at L H e63
      have hE9 : E ≤ 63 := e63
      clear hE hD hbig W2
      go_wp2
      go_ret3
      refine ⟨?_, HB1.out⟩
      simp only [L.out, wrap_swap, H.out]
      rw [F.out.1, F.out.2]
      rfl
    · have hE : eN b m = 0 := by
        have h2 : m / 2 ^ b < 2 := (Nat.div_lt_iff_lt_mul (Nat.two_pow_pos b)).2 (by omega)
        unfold eN; omega
      have hlo : loN b m = m := by unfold loN; rw [hE]; simp
      have hhi : hiN b m = m := by unfold hiN; rw [hE, hlo]; simp
      have hD'' : ¬ IntKind.u64.wrap (2 * 2 ^ b) ≤ (m : Int) := by rw [W2]; omega
      have hFF := F.out
      rw [hlo, hhi] at hFF
      have FF := Lib.hid hFF
      clear hE hlo hhi hbig W2 hFF
      go_wp2
      go_ret3
      refine ⟨?_, HB1.out⟩
      have e1 : loZ b (m : Int) = m := by rw [← FF.out.1]; unfold wrap64; omega
      have e2 : hiZ b (m : Int) = m := by rw [← FF.out.2]; unfold wrap64; omega
      rw [e1, e2]
      rfl
end Go.Proofs.Ytgafnilcmhjpcaa.HHist
