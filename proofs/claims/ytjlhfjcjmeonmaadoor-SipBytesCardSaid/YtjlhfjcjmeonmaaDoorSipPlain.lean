/- Plain laws of ranks and sums: where the first bit stands; what the document's sum and rank come to. -/
import Derived.Test.YtjlhfjcjmeonmaaDoorSipRank
namespace Go.Proofs.YtjlhfjcjmeonmaaDoor.HSip
open Go.RowKit Go.Proofs.YtjlhfjcjmeonmaaDoor.Print Go.Proofs.YtjlhfjcjmeonmaaDoorW.PrintWords Go.Proofs.YtjlhfjcjmeonmaaDoorW.PrintLast Go.Proofs.YtjlhfjcjmeonmaaDoorW.PrintMore

theorem ctz_spec (x : Nat) (h0 : x ≠ 0) (hx : x < M64) : ∃ m, x = 2 ^ Lib.ctz 64 x * (2 * m + 1) := by
  obtain ⟨m, hm, _⟩ := Lib.ctzFrom_spec 64 x (by omega) hx
  refine ⟨m, ?_⟩
  unfold Lib.ctz
  rw [if_neg h0]
  exact hm

theorem ctz_low (x j : Nat) (hx : x < M64) (hj : j < Lib.ctz 64 x) : x / 2 ^ j % 2 = 0 := by
  by_cases h0 : x = 0
  · subst h0; simp
  · obtain ⟨m, hm⟩ := ctz_spec x h0 hx
    generalize Lib.ctz 64 x = c at *
    have e : 2 ^ c = 2 ^ j * (2 * 2 ^ (c - j - 1)) := by
      rw [← Nat.pow_succ', ← Nat.pow_add]; congr 1; omega
    rw [hm, e, Nat.mul_assoc, Nat.mul_div_cancel_left _ (Nat.two_pow_pos j), Nat.mul_assoc, Nat.mul_mod_right]

theorem ctz_bit (x : Nat) (h0 : x ≠ 0) (hx : x < M64) : x / 2 ^ Lib.ctz 64 x % 2 = 1 := by
  obtain ⟨m, hm⟩ := ctz_spec x h0 hx
  generalize Lib.ctz 64 x = c at *
  rw [hm, Nat.mul_div_cancel_left _ (Nat.two_pow_pos c)]
  omega

theorem ctz_pow_le (x : Nat) (h0 : x ≠ 0) (hx : x < M64) : 2 ^ Lib.ctz 64 x ≤ x := by
  obtain ⟨m, hm⟩ := ctz_spec x h0 hx
  generalize Lib.ctz 64 x = c at *
  rw [hm]
  exact Nat.le_mul_of_pos_right _ (by omega)

/-- Whose lowest bit is known. -/
theorem ctz_is (x c m : Nat) (hx : x < M64) (h : x = 2 ^ c * (2 * m + 1)) : Lib.ctz 64 x = c := by
  have h0 : x ≠ 0 := by
    have := Nat.two_pow_pos c
    rw [h]
    exact Nat.mul_ne_zero (by omega) (by omega)
  have b1 := ctz_bit x h0 hx
  rcases Nat.lt_trichotomy (Lib.ctz 64 x) c with hlt | he | hgt
  · exfalso
    generalize Lib.ctz 64 x = d at *
    have e : 2 ^ c = 2 ^ d * (2 * 2 ^ (c - d - 1)) := by
      rw [← Nat.pow_succ', ← Nat.pow_add]; congr 1; omega
    rw [h, e, Nat.mul_assoc, Nat.mul_div_cancel_left _ (Nat.two_pow_pos d), Nat.mul_assoc, Nat.mul_mod_right] at b1
    cases b1
  · exact he
  · exfalso
    have b2 := ctz_low x c hx hgt
    rw [h, Nat.mul_div_cancel_left _ (Nat.two_pow_pos c)] at b2
    omega

theorem ctz_lt_sub (h f : Nat) (hh : h < M64) (hf : f < 64) (h0 : h / 2 ^ f ≠ 0) : Lib.ctz 64 (h / 2 ^ f) < 64 - f := by
  have hq : h / 2 ^ f < M64 := Nat.lt_of_le_of_lt (Nat.div_le_self _ _) hh
  have p := ctz_pow_le _ h0 hq
  have q : h / 2 ^ f < 2 ^ (64 - f) := by
    rw [Nat.div_lt_iff_lt_mul (Nat.two_pow_pos _), ← Nat.pow_add, show 64 - f + f = 64 by omega]; exact hh
  exact (Nat.pow_lt_pow_iff_right (a := 2) (by decide)).1 (Nat.lt_of_le_of_lt p q)

theorem bit_at (h f j : Nat) : h / 2 ^ (f + j) = h / 2 ^ f / 2 ^ j := by rw [Nat.pow_add, Nat.div_div_eq_div_mul]

theorem rank_pos (h f : Nat) : 1 ≤ rankN h f := by unfold rankN; omega
theorem rank_le (h f : Nat) (hf : f < 64) : rankN h f ≤ 65 - f := by unfold rankN; omega

/-- Below the rank's bit all bits are 0. -/
theorem rank_low (h f j : Nat) (hh : h < M64) (hj : j + 1 < rankN h f) : h / 2 ^ (f + j) % 2 = 0 := by
  rw [bit_at]
  exact ctz_low _ _ (Nat.lt_of_le_of_lt (Nat.div_le_self _ _) hh) (by unfold rankN at hj; omega)

/-- The rank's bit is 1, if there is one. -/
theorem rank_bit (h f : Nat) (hh : h < M64) (hf : f < 64) (hr : rankN h f ≠ 65 - f) : h / 2 ^ (f + (rankN h f - 1)) % 2 = 1 := by
  rw [bit_at]
  have hq : h / 2 ^ f < M64 := Nat.lt_of_le_of_lt (Nat.div_le_self _ _) hh
  by_cases h0 : h / 2 ^ f = 0
  · exfalso
    unfold rankN at hr
    rw [h0] at hr
    have : Lib.ctz 64 0 = 64 := by decide
    omega
  · have := ctz_lt_sub h f hh hf h0
    have e : rankN h f - 1 = Lib.ctz 64 (h / 2 ^ f) := by unfold rankN; omega
    rw [e]
    exact ctz_bit _ h0 hq

theorem rank_end (h f : Nat) (hh : h < M64) (hf : f < 64) (hr : rankN h f < 65 - f) : h / 2 ^ (f + (rankN h f - 1)) % 2 = 1 := rank_bit h f hh hf (by omega)

/-- The rank from any place on. -/
def rankZ (h : Nat) (f : Int) : Int := if 0 ≤ f ∧ f < 64 then rankN h f.toNat else 0

theorem shr_nat (h i : Nat) (hi : i ≤ 64) : shr .u64 (h : Int) (i : Int) = ((h / 2 ^ i : Nat) : Int) := by
  unfold shr
  rw [Int.toNat_natCast, Nat.min_eq_left (by simp only [IntKind.bits]; omega)]
  push_cast; rfl

theorem wrap64_id (x : Int) (h0 : -9223372036854775808 ≤ x) (h1 : x ≤ 9223372036854775807) : wrap64 x = x := by unfold wrap64; omega

theorem refrank_loop (h f : Nat) (hh : h < M64) (hf : f < 64) : ∀ (d k j : Nat), j + d + 1 = rankN h f → d + 1 < k →
    scantlingref01_Rank.l0 k (h : Int) ((1 + j : Nat) : Int) ((f + j : Nat) : Int) = some (rankN h f : Int) := by
  intro d
  have hle := rank_le h f hf
  induction d with
  | zero =>
    intro k j hj hk
    obtain ⟨k, rfl⟩ : ∃ m, k = m + 1 := ⟨k - 1, by omega⟩
    simp only [scantlingref01_Rank.l0]
    by_cases hlt : f + j < 64
    · rw [if_pos (by omega), if_pos (by omega), shr_nat _ _ (by omega)]
      have b := rank_end h f hh hf (by omega)
      rw [show rankN h f - 1 = j by omega] at b
      rw [show Int.tmod ((h / 2 ^ (f + j) : Nat) : Int) 2 = ((h / 2 ^ (f + j) % 2 : Nat) : Int) from rfl, b, if_pos (show ((1 : Nat) : Int) = 1 from rfl)]
      congr 1
      omega
    · rw [if_neg (by omega)]
      congr 1
      omega
  | succ d ih =>
    intro k j hj hk
    obtain ⟨k, rfl⟩ : ∃ m, k = m + 1 := ⟨k - 1, by omega⟩
    simp only [scantlingref01_Rank.l0]
    have b := rank_low h f j hh (by omega)
    rw [if_pos (by omega), if_pos (by omega), shr_nat _ _ (by omega), show Int.tmod ((h / 2 ^ (f + j) : Nat) : Int) 2 = ((h / 2 ^ (f + j) % 2 : Nat) : Int) from rfl, b, if_neg (by decide),
      wrap64_id _ (by omega) (by omega), wrap64_id _ (by omega) (by omega)]
    have := ih k (j + 1) (by omega) (by omega)
    rw [← this]
    congr 1 <;> omega

theorem refrank (h : Nat) (f : Int) (hh : h < M64) : scantlingref01_Rank.f 100 (h : Int) f = some (rankZ h f) := by
  unfold scantlingref01_Rank.f rankZ
  by_cases h1 : f < 0
  · rw [if_pos h1, if_neg (by omega)]; rfl
  · rw [if_neg h1]
    by_cases h2 : f > 63
    · rw [decide_eq_true h2, if_neg (by omega)]; rfl
    · rw [decide_eq_false h2, if_pos (by omega)]
      obtain ⟨n, rfl⟩ := Int.eq_ofNat_of_zero_le (show 0 ≤ f by omega)
      rw [Int.toNat_natCast]
      have hr := rank_pos h n
      have hl := rank_le h n (by omega)
      exact refrank_loop h n hh (by omega) (rankN h n - 1) 99 0 (by omega) (by omega)

/-- What is moved up keeps its first bit, if it is not moved out. -/
theorem ctz_shl (h n : Nat) (hh : h < M64) (hn : n < 64) : Lib.ctz 64 (h * 2 ^ n % M64) = min (Lib.ctz 64 h + n) 64 := by
  by_cases h0 : h = 0
  · subst h0
    have e : (0 : Nat) * 2 ^ n % M64 = 0 := by simp
    rw [e]
    have : Lib.ctz 64 0 = 64 := by decide
    omega
  · obtain ⟨m, hm⟩ := ctz_spec h h0 hh
    have hc := (Lib.lowest_bit 64 h h0 hh).2
    generalize hcc : Lib.ctz 64 h = c at *
    have e1 : h * 2 ^ n = 2 ^ (c + n) * (2 * m + 1) := by rw [hm, Nat.pow_add]; simp only [Nat.mul_comm, Nat.mul_left_comm]
    by_cases hlt : c + n < 64
    · have e2 : M64 = 2 ^ (c + n) * (2 * 2 ^ (63 - (c + n))) := by
        rw [← Nat.pow_succ', ← Nat.pow_add, show c + n + (63 - (c + n) + 1) = 64 by omega]; rfl
      have e3 : h * 2 ^ n % M64 = 2 ^ (c + n) * ((2 * m + 1) % (2 * 2 ^ (63 - (c + n)))) := by
        rw [e1, e2, Nat.mul_mod_mul_left]
      obtain ⟨q, hq⟩ : ∃ q, (2 * m + 1) % (2 * 2 ^ (63 - (c + n))) = 2 * q + 1 := by
        refine ⟨m % 2 ^ (63 - (c + n)), ?_⟩
        have hk := Nat.two_pow_pos (63 - (c + n))
        generalize 2 ^ (63 - (c + n)) = K at *
        rw [Nat.mod_mul, show (2 * m + 1) % 2 = 1 by omega, show (2 * m + 1) / 2 = m by omega]
        omega
      rw [hq] at e3
      rw [ctz_is _ (c + n) q (Nat.mod_lt _ zero_lt) e3]
      omega
    · have e3 : h * 2 ^ n % M64 = 0 := by
        rw [e1, show M64 = 2 ^ 64 from rfl]
        have : 2 ^ (c + n) = 2 ^ 64 * 2 ^ (c + n - 64) := by rw [← Nat.pow_add]; congr 1; omega
        rw [this, Nat.mul_assoc, Nat.mul_mod_right]
      rw [e3]
      have : Lib.ctz 64 0 = 64 := by decide
      omega

theorem rank0 (h : Nat) (hh : h < M64) : rankN h 0 = Lib.ctz 64 h + 1 := by
  have := ctz_le h hh
  unfold rankN
  rw [Nat.pow_zero, Nat.div_one]
  omega

theorem rank_moved (h n : Nat) (hh : h < M64) (hn : n < 64) : rankN (h * 2 ^ n % M64) 0 = min (rankN h 0 + n) 65 := by
  rw [rank0 _ (Nat.mod_lt _ zero_lt), rank0 h hh, ctz_shl h n hh hn]
  omega

theorem ctz_div (x n : Nat) (hx : x < M64) (hn : n ≤ Lib.ctz 64 x) (h0 : x ≠ 0) : Lib.ctz 64 (x / 2 ^ n) = Lib.ctz 64 x - n := by
  obtain ⟨m, hm⟩ := ctz_spec x h0 hx
  generalize Lib.ctz 64 x = c at *
  refine ctz_is _ _ m (Nat.lt_of_le_of_lt (Nat.div_le_self _ _) hx) ?_
  have e : 2 ^ c = 2 ^ n * 2 ^ (c - n) := by rw [← Nat.pow_add]; congr 1; omega
  rw [hm, e, Nat.mul_assoc, Nat.mul_div_cancel_left _ (Nat.two_pow_pos n)]

theorem rank_back (h n : Nat) (hh : h < M64) (hn : n < 64) : rankN (h * 2 ^ n % M64) n = min (rankN h 0) (65 - n) := by
  rw [rank0 h hh]
  have hl := ctz_shl h n hh hn
  have hc := ctz_le h hh
  unfold rankN
  by_cases h0 : h * 2 ^ n % M64 = 0
  · rw [h0] at hl ⊢
    have e : Lib.ctz 64 0 = 64 := by decide
    rw [Nat.zero_div, e]
    omega
  · have hlt := (Lib.lowest_bit 64 _ h0 (Nat.mod_lt _ zero_lt)).2
    rw [ctz_div _ n (Nat.mod_lt _ zero_lt) (by omega) h0]
    omega

end Go.Proofs.YtjlhfjcjmeonmaaDoor.HSip
