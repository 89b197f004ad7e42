/- What the document's own functions of chapter 2 answer: the same as package wide's, in plain words. -/
import Derived.Test.YtfbmdlheajclcaaPrintR2
import Derived.Test.YtfbmdlheajclcaaPrintR3
import Derived.Test.YtfbmdlheajclcaaPrintR4
import Derived.Test.YtfbmdlheajclcaaPrintR5
import Derived.Test.YtfbmdlheajclcaaWideRound
namespace Go.Proofs.Ytfbmdlheajclcaa.HRef
open Go.RowKit Go.Proofs.Ytfbmdlheajclcaa.Print Go.Proofs.Ytfbmdlheajclcaa.HWide Go.Proofs.YtfbmdlheajclcaaW.PrintWords Go.Proofs.YtfbmdlheajclcaaW.PrintLast Go.Proofs.YtfbmdlheajclcaaW.PrintMore

theorem str_app (a b : List Int) : strOfNums a ++ strOfNums b = strOfNums (a ++ b) := by
  refine ByteArray.ext (Array.toList_inj.1 ?_)
  rw [ByteArray.data_append, Array.toList_append, strOfNums_data, strOfNums_data, strOfNums_data, List.map_append]
theorem toList_str (l : List Int) : (strOfNums l).toList = [] ↔ l = [] := by
  rw [Lib.toList_data, strOfNums_data]
  simp

/-! ### Add, Less, Sign, Of -/
theorem refAdd (a b c d : Int) (h1 : Rng a b) (h2 : Rng c d) : scantlingref02_Sum_Add.f a b c d = some (nrm (val a b + val c d)) := addRef_ev a b c d h1 h2
theorem refLess (a b c d : Int) (h1 : Rng a b) (h2 : Rng c d) : scantlingref02_Sum_Less.f a b c d = some (decide (val a b < val c d)) := by
  unfold Rng at h1 h2
  unfold scantlingref02_Sum_Less.f val B64
  by_cases h : a < c
  · rw [if_pos h]; congr 1; symm; rw [decide_eq_true_eq]; omega
  · rw [if_neg h]
    by_cases e : a = c
    · rw [if_pos e]; congr 1; rw [Bool.eq_iff_iff, decide_eq_true_eq, decide_eq_true_eq]; omega
    · rw [if_neg e]; congr 1; symm; rw [decide_eq_false_iff_not]; omega
theorem refSign (a b : Int) (h1 : Rng a b) : scantlingref02_Sum_Sign.f a b = some (cmpI (val a b) 0) := by
  unfold Rng at h1
  unfold scantlingref02_Sum_Sign.f cmpI val B64
  by_cases h : a < 0
  · rw [if_pos h, if_pos (show a * 18446744073709551616 + b < 0 by omega)]
  · rw [if_neg h, if_neg (show ¬ a * 18446744073709551616 + b < 0 by omega)]
    by_cases e : a = 0
    · rw [if_pos e]
      by_cases f : b = 0
      · rw [if_pos f, if_neg (show ¬ a * 18446744073709551616 + b > 0 by omega)]
      · rw [if_neg f, if_pos (show a * 18446744073709551616 + b > 0 by omega)]
    · rw [if_neg e, if_pos (show a * 18446744073709551616 + b > 0 by omega)]
theorem refOf (n : Int) (h : -9223372036854775808 ≤ n ∧ n ≤ 9223372036854775807) : scantlingref02_Of.f n = some (nrm n) := by
  unfold scantlingref02_Of.f nrm
  rw [IntKind.wrap_u64]
  by_cases hn : n < 0
  · rw [if_pos hn]; simp only [Option.some.injEq, Prod.mk.injEq]; unfold wrap64 B64; omega
  · rw [if_neg hn]; simp only [Option.some.injEq, Prod.mk.injEq]; unfold wrap64 B64; omega

/-! ### Text -/
theorem l1_step (k : Nat) (h : ByteArray) (L L' : List Int) (acc : ByteArray) (r x : Int) (i : Int) (hi : 0 ≤ i ∧ i < 4) (hL : (L.length : Int) = 4) (hx : rd L i = x) (hr : 0 ≤ r ∧ r < 10) (hx0 : 0 ≤ x ∧ x < 4294967296) (hL' : L.set i.toNat ((r * 4294967296 + x) / 10) = L') :
    scantlingref02_Sum_Text.l1 (k + 1) h L acc r i = scantlingref02_Sum_Text.l1 k h L' acc ((r * 4294967296 + x) % 10) (i + 1) := by
  rw [scantlingref02_Sum_Text.l1, if_pos hi.2, if_pos hi.1, if_pos (by omega), hx]
  have e1 : IntKind.u64.wrap (IntKind.u64.wrap (r * 4294967296) + x) = r * 4294967296 + x := by
    rw [IntKind.wrap_u64, IntKind.wrap_u64]; omega
  have e2 : IntKind.u64.wrap (Int.tdiv (r * 4294967296 + x) 10) = (r * 4294967296 + x) / 10 := by
    rw [Int.tdiv_eq_ediv_of_nonneg (by omega), IntKind.wrap_u64]; omega
  have e3 : Int.tmod (r * 4294967296 + x) 10 = (r * 4294967296 + x) % 10 := Int.tmod_eq_emod_of_nonneg (by omega)
  have e4 : wrap64 (i + 1) = i + 1 := by unfold wrap64; omega
  rw [e1, e2, e3, e4, hL']
def lim (n : Nat) : List Int := [((n / 4294967296 / 4294967296 / 4294967296 : Nat) : Int), ((n / 4294967296 / 4294967296 % 4294967296 : Nat) : Int), ((n / 4294967296 % 4294967296 : Nat) : Int), ((n % 4294967296 : Nat) : Int)]
theorem l1_run (k : Nat) (h : ByteArray) (n : Nat) (hn : n < 340282366920938463463374607431768211456) (acc : ByteArray) (ha : acc.size ≤ 1000) :
    scantlingref02_Sum_Text.l1 (k + 5) h (lim n) acc 0 0 = scantlingref02_Sum_Text.l0 k h (lim (n / 10)) (strOfNums [48 + ((n % 10 : Nat) : Int)] ++ acc) := by
  unfold lim
  obtain ⟨a, ea⟩ : ∃ a : Int, a = ((n / 4294967296 / 4294967296 / 4294967296 : Nat) : Int) := ⟨_, rfl⟩
  obtain ⟨b, eb⟩ : ∃ a : Int, a = ((n / 4294967296 / 4294967296 % 4294967296 : Nat) : Int) := ⟨_, rfl⟩
  obtain ⟨c, ec⟩ : ∃ a : Int, a = ((n / 4294967296 % 4294967296 : Nat) : Int) := ⟨_, rfl⟩
  obtain ⟨d, ed⟩ : ∃ a : Int, a = ((n % 4294967296 : Nat) : Int) := ⟨_, rfl⟩
  rw [← ea, ← eb, ← ec, ← ed]
  obtain ⟨q1, eq1⟩ : ∃ q : Int, q = (0 * 4294967296 + a) / 10 := ⟨_, rfl⟩
  obtain ⟨r1, er1⟩ : ∃ q : Int, q = (0 * 4294967296 + a) % 10 := ⟨_, rfl⟩
  obtain ⟨q2, eq2⟩ : ∃ q : Int, q = (r1 * 4294967296 + b) / 10 := ⟨_, rfl⟩
  obtain ⟨r2, er2⟩ : ∃ q : Int, q = (r1 * 4294967296 + b) % 10 := ⟨_, rfl⟩
  obtain ⟨q3, eq3⟩ : ∃ q : Int, q = (r2 * 4294967296 + c) / 10 := ⟨_, rfl⟩
  obtain ⟨r3, er3⟩ : ∃ q : Int, q = (r2 * 4294967296 + c) % 10 := ⟨_, rfl⟩
  obtain ⟨q4, eq4⟩ : ∃ q : Int, q = (r3 * 4294967296 + d) / 10 := ⟨_, rfl⟩
  obtain ⟨r4, er4⟩ : ∃ q : Int, q = (r3 * 4294967296 + d) % 10 := ⟨_, rfl⟩
  rw [l1_step (k + 4) h [a, b, c, d] [q1, b, c, d] acc 0 a 0 (by omega) rfl rfl (by omega) (by omega) (by rw [← eq1]; rfl), ← er1]
  rw [l1_step (k + 3) h [q1, b, c, d] [q1, q2, c, d] acc r1 b (0 + 1) (by omega) rfl rfl (by omega) (by omega) (by rw [← eq2]; rfl), ← er2]
  rw [l1_step (k + 2) h [q1, q2, c, d] [q1, q2, q3, d] acc r2 c (0 + 1 + 1) (by omega) rfl rfl (by omega) (by omega) (by rw [← eq3]; rfl), ← er3]
  rw [l1_step (k + 1) h [q1, q2, q3, d] [q1, q2, q3, q4] acc r3 d (0 + 1 + 1 + 1) (by omega) rfl rfl (by omega) (by omega) (by rw [← eq4]; rfl), ← er4]
  have e1 : IntKind.u64.wrap (48 + r4) % 256 = 48 + ((n % 10 : Nat) : Int) := by
    rw [IntKind.wrap_u64]; omega
  rw [scantlingref02_Sum_Text.l1, if_neg (by omega), e1, Option.bind_some]
  have hs : (strOfNums [48 + ((n % 10 : Nat) : Int)]).size = 1 := by rw [strOfNums_size]; rfl
  rw [if_pos (by omega)]
  have hQ : ((n / 10 : Nat) : Int) = ((q1 * 4294967296 + q2) * 4294967296 + q3) * 4294967296 + q4 := by omega
  have b1 : 0 ≤ q1 := by omega
  have b2 : 0 ≤ q2 ∧ q2 < 4294967296 := by omega
  have b3 : 0 ≤ q3 ∧ q3 < 4294967296 := by omega
  have b4 : 0 ≤ q4 ∧ q4 < 4294967296 := by omega
  obtain ⟨m, hm⟩ : ∃ m, m = n / 10 := ⟨_, rfl⟩
  rw [← hm] at hQ ⊢
  clear hm e1 hs eq1 eq2 eq3 eq4 er1 er2 er3 er4 ea eb ec ed hn
  congr 1
  simp only [List.cons.injEq, and_true]
  have m1 : ((m / 4294967296 : Nat) : Int) = (q1 * 4294967296 + q2) * 4294967296 + q3 := by omega
  have m2 : ((m / 4294967296 / 4294967296 : Nat) : Int) = q1 * 4294967296 + q2 := by omega
  have m3 : ((m / 4294967296 / 4294967296 / 4294967296 : Nat) : Int) = q1 := by omega
  exact ⟨m3.symm, by omega, by omega, by omega⟩
theorem lim_sum (n : Nat) (hn : n < 340282366920938463463374607431768211456) : decide (IntKind.u64.wrap (IntKind.u64.wrap (IntKind.u64.wrap (rd (lim n) 0 + rd (lim n) 1) + rd (lim n) 2) + rd (lim n) 3) > 0) = decide (n ≠ 0) := by
  have e0 : rd (lim n) 0 = ((n / 4294967296 / 4294967296 / 4294967296 : Nat) : Int) := rfl
  have e1 : rd (lim n) 1 = ((n / 4294967296 / 4294967296 % 4294967296 : Nat) : Int) := rfl
  have e2 : rd (lim n) 2 = ((n / 4294967296 % 4294967296 : Nat) : Int) := rfl
  have e3 : rd (lim n) 3 = ((n % 4294967296 : Nat) : Int) := rfl
  rw [e0, e1, e2, e3, Bool.eq_iff_iff, decide_eq_true_eq, decide_eq_true_eq, IntKind.wrap_u64, IntKind.wrap_u64, IntKind.wrap_u64]
  clear e0 e1 e2 e3
  obtain ⟨a, ea⟩ : ∃ a : Nat, a = n / 4294967296 / 4294967296 / 4294967296 := ⟨_, rfl⟩
  obtain ⟨b, eb⟩ : ∃ a : Nat, a = n / 4294967296 / 4294967296 % 4294967296 := ⟨_, rfl⟩
  obtain ⟨c, ec⟩ : ∃ a : Nat, a = n / 4294967296 % 4294967296 := ⟨_, rfl⟩
  obtain ⟨d, ed⟩ : ∃ a : Nat, a = n % 4294967296 := ⟨_, rfl⟩
  have ha : a < 4294967296 := by omega
  have hb : b < 4294967296 := by omega
  have hc : c < 4294967296 := by omega
  have hd : d < 4294967296 := by omega
  have hz : n = ((a * 4294967296 + b) * 4294967296 + c) * 4294967296 + d := by omega
  rw [← ea, ← eb, ← ec, ← ed]
  clear ea eb ec ed
  have w1 : ((a : Int) + b) % 18446744073709551616 = a + b := by omega
  have w2 : ((a : Int) + b + c) % 18446744073709551616 = a + b + c := by omega
  have w3 : ((a : Int) + b + c + d) % 18446744073709551616 = a + b + c + d := by omega
  rw [w1, w2, w3]
  omega
theorem lim_len (n : Nat) : ((lim n).length : Int) = 4 := rfl
theorem text_one (k : Nat) (h : ByteArray) (n : Nat) (hn : n < 340282366920938463463374607431768211456) (acc : List Int) (ha : acc.length ≤ 1000) (hc : acc = [] ∨ n ≠ 0) :
    scantlingref02_Sum_Text.l0 (k + 7) h (lim n) (strOfNums acc) = scantlingref02_Sum_Text.l0 k h (lim (n / 10)) (strOfNums ([48 + ((n % 10 : Nat) : Int)] ++ acc)) := by
  have hs : (strOfNums acc).size ≤ 1000 := by rw [strOfNums_size]; exact ha
  rw [← str_app, ← l1_run k h n hn (strOfNums acc) hs]
  rw [scantlingref02_Sum_Text.l0]
  by_cases h0 : acc = []
  · rw [if_pos ((toList_str acc).2 h0), scantlingref02_Sum_Text.j2, if_pos rfl]
  · rw [if_neg (fun e => h0 ((toList_str acc).1 e)), lim_len, if_pos (by decide), if_pos (by decide), if_pos (by decide), if_pos (by decide), lim_sum n hn, scantlingref02_Sum_Text.j2]
    rw [if_pos (by rcases hc with hc | hc; exact absurd hc h0; simpa using hc)]
theorem text_all : ∀ (f k : Nat) (h : ByteArray) (n : Nat) (acc : List Int), n < 340282366920938463463374607431768211456 → n < 10 ^ f → acc ≠ [] → acc.length + f ≤ 900 → h.size ≤ 10 →
    scantlingref02_Sum_Text.l0 (k + 7 * f + 2) h (lim n) (strOfNums acc) = some (h ++ strOfNums ((rdig f n).reverse ++ acc))
  | f, k, h, n, acc, hn, hf, hne, hl, hh => by
    by_cases h0 : n = 0
    · subst h0
      have er : rdig f 0 = [] := by cases f <;> simp [rdig]
      have hs : (strOfNums acc).size ≤ 1000 := by rw [strOfNums_size]; omega
      rw [er, scantlingref02_Sum_Text.l0, if_neg (fun e => hne ((toList_str acc).1 e)), lim_len, if_pos (by decide), if_pos (by decide), if_pos (by decide), if_pos (by decide), lim_sum 0 hn, scantlingref02_Sum_Text.j2, if_neg (by simp), if_pos (by omega)]
      rfl
    · cases f with
      | zero => simp at hf; omega
      | succ f =>
        rw [show k + 7 * (f + 1) + 2 = (k + 7 * f + 2) + 7 by omega, text_one _ h n hn acc (by omega) (.inr h0), text_all f k h (n / 10) _ (by omega) (by rw [Nat.pow_succ] at hf; omega) (by simp) (by simp; omega) hh]
        have er : rdig (f + 1) n = (48 + ((n % 10 : Nat) : Int)) :: rdig f (n / 10) := by simp only [rdig, if_neg h0]
        rw [er, List.reverse_cons, List.append_assoc]
theorem limbs_is (h l : Int) (hr : Rng h l) (hp : 0 ≤ h ∨ h = -9223372036854775808) (n : Nat) (hn : (n : Int) = IntKind.u64.wrap h * 18446744073709551616 + l) : scantlingref02_limbs.f (IntKind.u64.wrap h) l = some (lim n) := by
  unfold Rng at hr
  unfold scantlingref02_limbs.f lim
  rw [IntKind.wrap_u64] at hn
  rw [IntKind.wrap_u64, IntKind.wrap_u64, IntKind.wrap_u64]
  congr 1
  simp only [List.cons.injEq, and_true]
  omega
theorem text_j0 (k : Nat) (s : ByteArray) (h l : Int) (hr : Rng h l) (hp : 0 ≤ h ∨ h = -9223372036854775808) (n : Nat) (hn : (n : Int) = IntKind.u64.wrap h * 18446744073709551616 + l) (hs : s.size ≤ 10) (hk : 600 < k) :
    scantlingref02_Sum_Text.j0 k s h l = some (s ++ strOfNums (decN n)) := by
  have hn2 : n < 340282366920938463463374607431768211456 := by
    unfold Rng at hr
    rw [IntKind.wrap_u64] at hn
    omega
  obtain ⟨k, rfl⟩ : ∃ m, k = (m + 7 * 59 + 2 + 7) + 1 := ⟨k - 423, by omega⟩
  have h60 : n < 10 ^ 60 := Nat.lt_of_lt_of_le hn2 (by decide +kernel)
  rw [scantlingref02_Sum_Text.j0, limbs_is h l hr hp n hn, Option.bind_some]
  have e0 : (⟨#[]⟩ : ByteArray) = strOfNums [] := rfl
  rw [e0, text_one _ s n hn2 [] (by simp) (.inl rfl), text_all 59 k s (n / 10) _ (by omega) (by rw [Nat.pow_succ] at h60; omega) (by simp) (by simp) hs]
  unfold decN
  rw [decF_rdig 59 n (by simpa using h60)]
  rfl
theorem refText (k : Nat) (a b : Int) (hr : Rng a b) (hk : 600 < k) : scantlingref02_Sum_Text.f k a b = some (strOfNums (decZ (val a b))) := by
  have hr' := hr
  unfold Rng at hr'
  unfold scantlingref02_Sum_Text.f
  by_cases h : a < 0
  · have hv : val a b < 0 := by unfold val B64; omega
    rw [if_pos h]
    unfold scantlingref02_Sum_Neg.f
    rw [if_pos hr, Option.bind_some]
    have hn : ((val a b).natAbs : Int) = IntKind.u64.wrap (nrm (-val a b)).1 * 18446744073709551616 + (nrm (-val a b)).2 := by
      rw [IntKind.wrap_u64]
      unfold nrm wrap64 val B64 at *
      simp only
      omega
    have hp : 0 ≤ (nrm (-val a b)).1 ∨ (nrm (-val a b)).1 = -9223372036854775808 := by
      unfold nrm wrap64 val B64
      simp only
      omega
    rw [text_j0 k _ _ _ (nrm_rng _) hp _ hn (by decide) hk]
    have e : (⟨#[45]⟩ : ByteArray) = strOfNums [45] := rfl
    rw [e, str_app]
    unfold decZ
    rw [if_pos hv]
    rfl
  · have hv : ¬ val a b < 0 := by unfold val B64; omega
    rw [if_neg h, text_j0 k _ a b hr (.inl (by omega)) (val a b).natAbs (by rw [IntKind.wrap_u64]; unfold val B64 at *; omega) (by decide) hk]
    have e : (⟨#[]⟩ : ByteArray) = strOfNums [] := rfl
    rw [e, str_app]
    unfold decZ
    rw [if_neg hv]
    rfl

end Go.Proofs.Ytfbmdlheajclcaa.HRef
