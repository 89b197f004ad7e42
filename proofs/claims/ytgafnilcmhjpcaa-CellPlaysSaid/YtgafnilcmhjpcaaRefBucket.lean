/- Contract of the document's own bucket (package scantlingref05), walked by hand: for any number of bits and any number of 64 bits. -/
import Derived.Test.YtgafnilcmhjpcaaBucket
namespace Go.Proofs.Ytgafnilcmhjpcaa.HBucket
open Go.RowKit

theorem pow_bitLen_le : ∀ (f x : Nat), x ≠ 0 → x < 2 ^ f → 2 ^ (Lib.bitLenAux f x - 1) ≤ x
  | 0, x, h0, h => by simp at h; omega
  | f + 1, x, h0, h => by
    unfold Lib.bitLenAux
    simp only [h0, if_false]
    by_cases h1 : x / 2 = 0
    · rw [h1]
      have : Lib.bitLenAux f 0 = 0 := by cases f <;> simp [Lib.bitLenAux]
      rw [this]; simp; omega
    · have := pow_bitLen_le f (x / 2) h1 (by rw [Nat.pow_succ] at h; omega)
      have e : 1 + Lib.bitLenAux f (x / 2) - 1 = (Lib.bitLenAux f (x / 2) - 1) + 1 ∨ Lib.bitLenAux f (x / 2) = 0 := by omega
      rcases e with e | e
      · rw [e, Nat.pow_succ]; omega
      · rw [e]; simp; omega

theorem pow_bitLen (x : Nat) (h0 : x ≠ 0) (h : x < 18446744073709551616) : 2 ^ (Lib.bitLen x - 1) ≤ x := pow_bitLen_le 64 x h0 h

/-- How far a number is moved. -/
def mvN (b m : Nat) : Nat := Lib.bitLen m - 1 - b

theorem mv_more (b m e : Nat) (hm : m < 18446744073709551616) (he : e < mvN b m) : 2 * 2 ^ b ≤ m / 2 ^ e := by
  unfold mvN at he
  have h0 : m ≠ 0 := by
    rintro rfl
    have : Lib.bitLen 0 = 0 := by decide
    omega
  have h := pow_bitLen m h0 hm
  rw [Nat.le_div_iff_mul_le (Nat.two_pow_pos _)]
  refine Nat.le_trans ?_ h
  rw [← Nat.pow_succ', ← Nat.pow_add]
  exact Nat.pow_le_pow_right (by decide) (by omega)

theorem mv_end (b m : Nat) (hm : m < 18446744073709551616) : m / 2 ^ mvN b m < 2 * 2 ^ b := by
  unfold mvN
  have h := bitLen_lt m hm
  rw [Nat.div_lt_iff_lt_mul (Nat.two_pow_pos _)]
  refine Nat.lt_of_lt_of_le h ?_
  rw [← Nat.pow_succ', ← Nat.pow_add]
  exact Nat.pow_le_pow_right (by decide) (by omega)

theorem mv_le (b m : Nat) (hm : m < 18446744073709551616) : mvN b m ≤ 63 := by
  have := Lib.bitLen_le m 64 (by omega) hm
  unfold mvN; omega

theorem u64_abs (n : Int) (hn0 : -9223372036854775808 ≤ n) (hn1 : n ≤ 9223372036854775807) :
    (n < 0 → IntKind.u64.wrap (-IntKind.u64.wrap n) = (n.natAbs : Int)) ∧ (0 ≤ n → IntKind.u64.wrap n = (n.natAbs : Int)) := by
  simp only [IntKind.wrap, IntKind.signed, IntKind.bits, Bool.false_and, Bool.false_eq_true, if_false]
  exact ⟨fun h => by omega, fun h => by omega⟩

theorem two_b (b : Nat) (hb : b ≤ 4) : IntKind.u64.wrap (2 * 2 ^ b) = ((2 * 2 ^ b : Nat) : Int) := by
  have : 2 ^ b ≤ 2 ^ 4 := Nat.pow_le_pow_right (by decide) hb
  rw [u64_id]
  · push_cast; rfl
  · have : (2 : Int) * 2 ^ b = ((2 * 2 ^ b : Nat) : Int) := by push_cast; rfl
    omega
  · have : (2 : Int) * 2 ^ b = ((2 * 2 ^ b : Nat) : Int) := by push_cast; rfl
    omega

theorem t_more (b M e : Nat) (hb : b ≤ 4) (hM : M < 18446744073709551616) (he : e < mvN b M) : IntKind.u64.wrap (2 * 2 ^ b) ≤ (M : Int) / 2 ^ e := by
  rw [two_b b hb]
  have := mv_more b M e hM he
  have q : ((M : Int) / 2 ^ e) = ((M / 2 ^ e : Nat) : Int) := by push_cast; rfl
  rw [q]
  exact Int.ofNat_le.2 this

theorem t_end (b M : Nat) (hb : b ≤ 4) (hM : M < 18446744073709551616) : (M : Int) / 2 ^ mvN b M < IntKind.u64.wrap (2 * 2 ^ b) := by
  rw [two_b b hb]
  have := mv_end b M hM
  have q : ((M : Int) / 2 ^ mvN b M) = ((M / 2 ^ mvN b M : Nat) : Int) := by push_cast; rfl
  rw [q]
  exact Int.ofNat_lt.2 this

theorem r_eq (b M e : Nat) (hb : b ≤ 4) (hM : M < 18446744073709551616) (he : e = mvN b M) : wrap64 (wrap64 ((e : Int) * 2 ^ b) + wrap64 ((M : Int) / 2 ^ e)) = (ofN b M : Int) := by
  subst he
  have s := div_small b M hb hM
  have t := ofN_lt b M hb hM
  have q1 : ((M : Int) / 2 ^ mvN b M) = ((M / 2 ^ mvN b M : Nat) : Int) := by push_cast; rfl
  have q2 : ((mvN b M : Int) * 2 ^ b) = ((mvN b M * 2 ^ b : Nat) : Int) := by push_cast; rfl
  rw [q1, q2]
  unfold mvN
  unfold ofN at *
  generalize M / 2 ^ (Lib.bitLen M - 1 - b) = p at *
  generalize (Lib.bitLen M - 1 - b) * 2 ^ b = q at *
  clear hM q1 q2
  unfold wrap64
  omega

theorem fin_wrap {n : Int} (hn : n < 0) {m : Nat} (h : m < 1056) : wrap64 (-(m : Int)) = sgn n m := by
  unfold sgn; rw [if_pos hn]; unfold wrap64; omega

theorem ret_two {a b : Int} {k : IntKind} {c : Value} (h : a = b) : Ending.returned (.tuple #[.int k a, c]) = .returned (.tuple #[.int k b, c]) := by rw [h]

set_option maxHeartbeats 1000000 in
theorem rOf_yes (many n : Int) (w : World) (h0 : 0 ≤ many) (h4 : many ≤ 4) (hn0 : -9223372036854775808 ≤ n) (hn1 : n ≤ 9223372036854775807) :
    Calls Try.prog 66 #[.int .i64 many, .int .i64 n] w fun e w' => e = .returned (.tuple #[.int .i64 (sgn n (ofN many.toNat n.natAbs)), .bool true]) ∧ Below w.heap.size w w' := by
  have ha := u64_abs n hn0 hn1
  have HA := Lib.hid ha
  clear ha
  rcases Int.lt_or_le n 0 with hn | hn
  · go_enter Try.func66, Try.ntmps66
    go_wp2
    rw [HA.out.1 hn]
    obtain ⟨M, hM⟩ : ∃ M, M = n.natAbs := ⟨_, rfl⟩
    have hmm : M ≤ 9223372036854775808 := by omega
    have HM := Lib.hid hM
    rw [← hM]
    clear hM
    have hE := mv_le many.toNat M (by omega)
    obtain ⟨E, hE2⟩ : ∃ E, E = mvN many.toNat M := ⟨_, rfl⟩
    rw [← hE2] at hE
    have HE := Lib.hid hE2
    clear hE2
    go_loopw [7] (fun v wr => ∃ e : Nat, e ≤ E ∧ v = .int .i64 e ∧ Below w.heap.size w wr) (fun v _ => E - (intOf v).toNat)
    case atStart => exact ⟨0, Nat.zero_le _, rfl, Below.refl _ _⟩
    case round =>
      obtain ⟨e, he, rfl, hb⟩ := hrel
      have HB := Lib.hid hb
      clear hb
      rcases Nat.lt_or_ge e E with hlt | hge
      · have T : IntKind.u64.wrap (2 * 2 ^ many.toNat) ≤ (M : Int) / 2 ^ e := t_more many.toNat M e (by omega) (by omega) (by rw [← HE.out]; exact hlt)
        go_wp2
        repeat (go_quiet (fail); try go_wp2)
        go_roundw
        case rel => exact ⟨e + 1, by omega, by go_num, Below.drewN HB.out _⟩
        case measure => simp [intOf]; omega
      · obtain rfl : e = E := by omega
        have T : (M : Int) / 2 ^ e < IntKind.u64.wrap (2 * 2 ^ many.toNat) := by have := t_end many.toNat M (by omega) (by omega); rw [← HE.out] at this; exact this
        have R := Lib.hid (r_eq many.toNat M e (by omega) (by omega) HE.out)
        have G := Lib.hid (ofN_lt many.toNat M (by omega) (by omega))
        go_wp2
        repeat (go_quiet (fail); try go_wp2)
        rw [R.out]
        go_ret2
        refine ⟨?_, Below.drewN HB.out _⟩
        rw [← HM.out]; exact ret_two (fin_wrap hn G.out)
  · obtain ⟨M, rfl⟩ := Int.eq_ofNat_of_zero_le hn
    have hmm : M ≤ 9223372036854775808 := by omega
    go_enter Try.func66, Try.ntmps66
    go_wp2
    have hE := mv_le many.toNat M (by omega)
    obtain ⟨E, hE2⟩ : ∃ E, E = mvN many.toNat M := ⟨_, rfl⟩
    rw [← hE2] at hE
    have HE := Lib.hid hE2
    clear hE2
    go_loopw [7] (fun v wr => ∃ e : Nat, e ≤ E ∧ v = .int .i64 e ∧ Below w.heap.size w wr) (fun v _ => E - (intOf v).toNat)
    case atStart => exact ⟨0, Nat.zero_le _, rfl, Below.refl _ _⟩
    case round =>
      obtain ⟨e, he, rfl, hb⟩ := hrel
      have HB := Lib.hid hb
      clear hb
      rcases Nat.lt_or_ge e E with hlt | hge
      · have T : IntKind.u64.wrap (2 * 2 ^ many.toNat) ≤ (M : Int) / 2 ^ e := t_more many.toNat M e (by omega) (by omega) (by rw [← HE.out]; exact hlt)
        go_wp2
        repeat (go_quiet (fail); try go_wp2)
        go_roundw
        case rel => exact ⟨e + 1, by omega, by go_num, Below.drewN HB.out _⟩
        case measure => simp [intOf]; omega
      · obtain rfl : e = E := by omega
        have T : (M : Int) / 2 ^ e < IntKind.u64.wrap (2 * 2 ^ many.toNat) := by have := t_end many.toNat M (by omega) (by omega); rw [← HE.out] at this; exact this
        have R := Lib.hid (r_eq many.toNat M e (by omega) (by omega) HE.out)
        have G := Lib.hid (ofN_lt many.toNat M (by omega) (by omega))
        go_wp2
        repeat (go_quiet (fail); try go_wp2)
        rw [R.out]
        go_ret2
        refine ⟨?_, Below.drewN HB.out _⟩
        exact ret_two (by unfold sgn; rw [if_neg (by omega)]; rfl)


set_option maxHeartbeats 1000000 in
theorem rOf_no (many n : Int) (w : World) (h : many < 0 ∨ 4 < many) :
    Calls Try.prog 66 #[.int .i64 many, .int .i64 n] w fun e w' => e = .returned (.tuple #[.int .i64 0, .bool false]) ∧ Below w.heap.size w w' := by
  rcases h with h | h
  · go_enter Try.func66, Try.ntmps66
    go_wp2
    go_ret2
    exact ⟨rfl, Below.refl _ _⟩
  · have h' : 0 ≤ many := by omega
    go_enter Try.func66, Try.ntmps66
    go_wp2
    go_ret2
    exact ⟨rfl, Below.refl _ _⟩

end Go.Proofs.Ytgafnilcmhjpcaa.HBucket

namespace Go.Proofs.Ytgafnilcmhjpcaa.Print
open Go.RowKit Go.Proofs.Ytgafnilcmhjpcaa.HBucket
/-- The document's bucket is the program's. -/
def scantlingref05_Of.f (a0 a1 : Int) : Option (Int × Bool) := bucket_Of.f a0 a1
theorem scantlingref05_Of.calls (a0 : Int) (a1 : Int) (r1 : Int) (r2 : Bool) (w : World) (h : scantlingref05_Of.f a0 a1 = some (r1, r2)) :
    Calls Try.prog 66 #[.int .i64 a0, .int .i64 a1] w fun e w' => e = .returned (.tuple #[.int .i64 r1, .bool r2]) ∧ Below w.heap.size w w' := by
  unfold scantlingref05_Of.f bucket_Of.f at h
  by_cases h1 : I64 a1
  · rw [if_pos h1] at h
    by_cases h2 : 0 ≤ a0 ∧ a0 ≤ 4
    · rw [if_pos h2] at h
      obtain ⟨rfl, rfl⟩ := Prod.mk.inj (Option.some.inj h)
      exact rOf_yes a0 a1 w h2.1 h2.2 h1.1 h1.2
    · rw [if_neg h2] at h
      obtain ⟨rfl, rfl⟩ := Prod.mk.inj (Option.some.inj h)
      exact rOf_no a0 a1 w (by omega)
  · rw [if_neg h1] at h
    cases h
end Go.Proofs.Ytgafnilcmhjpcaa.Print
