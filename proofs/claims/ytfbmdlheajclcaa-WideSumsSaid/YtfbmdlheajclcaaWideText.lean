/- What the printed Text of a sum comes to: the digits of its value. For every sum. -/
import Derived.Test.YtfbmdlheajclcaaPrintT1
namespace Go.Proofs.Ytfbmdlheajclcaa.HWide
open Go.RowKit Go.Proofs.Ytfbmdlheajclcaa.Print Go.Proofs.Ytfbmdlheajclcaa.PrintT Go.Proofs.YtfbmdlheajclcaaW.PrintWords Go.Proofs.YtfbmdlheajclcaaW.PrintLast Go.Proofs.YtfbmdlheajclcaaW.PrintMore

/-- The digits of a number, as bytes. -/
def decF : Nat → Nat → List Int
  | 0, _ => []
  | f + 1, n => if n < 10 then [48 + (n : Int)] else decF f (n / 10) ++ [48 + ((n % 10 : Nat) : Int)]
def decN (n : Nat) : List Int := decF 60 n
def decZ (v : Int) : List Int := if v < 0 then 45 :: decN v.natAbs else decN v.natAbs

/-- The digits, the lowest first; none of 0. -/
def rdig : Nat → Nat → List Int
  | 0, _ => []
  | f + 1, n => if n = 0 then [] else (48 + ((n % 10 : Nat) : Int)) :: rdig f (n / 10)

theorem decF_rdig : ∀ (f n : Nat), n < 10 ^ (f + 1) → decF (f + 1) n = (rdig f (n / 10)).reverse ++ [48 + ((n % 10 : Nat) : Int)]
  | 0, n, h => by
    have : n < 10 := by simpa using h
    simp [decF, rdig, this, Nat.mod_eq_of_lt this]
  | f + 1, n, h => by
    have ih := decF_rdig f (n / 10) (by rw [Nat.pow_succ] at h; omega)
    rw [decF]
    by_cases h1 : n < 10
    · rw [if_pos h1, show n / 10 = 0 by omega, Nat.mod_eq_of_lt h1]
      simp [rdig]
    · rw [if_neg h1, ih]
      simp only [rdig]
      rw [if_neg (by omega)]
      simp

theorem rdig_len : ∀ (f n : Nat), (rdig f n).length ≤ f
  | 0, _ => by simp [rdig]
  | f + 1, n => by
    simp only [rdig]
    split
    · simp
    · have := rdig_len f (n / 10)
      simp; omega

theorem rev_loop : ∀ (d k : Nat) (pre mid suf : List Int), mid.length ≤ d → d + 1 < k → (pre ++ mid ++ suf).length < 4611686018427387904 →
    slices_Reverse_byte_byte.l0 k (pre ++ mid ++ suf) (pre.length : Int) ((pre.length : Int) + mid.length - 1) = some (pre ++ mid.reverse ++ suf)
  | d, k, pre, mid, suf, hd, hk, hl => by
    obtain ⟨k, rfl⟩ : ∃ m, k = m + 1 := ⟨k - 1, by omega⟩
    simp only [slices_Reverse_byte_byte.l0]
    match mid, hd with
    | [], _ => rw [if_neg (by simp; omega)]; rfl
    | [a], _ => rw [if_neg (by simp)]; rfl
    | a :: b :: m, hd =>
      obtain ⟨d, rfl⟩ : ∃ e, d = e + 2 := ⟨d - 2, by simp at hd; omega⟩
      obtain ⟨mm, z, hz⟩ : ∃ mm z, b :: m = mm ++ [z] := ⟨(b :: m).dropLast, (b :: m).getLast (by simp), (List.dropLast_concat_getLast _).symm⟩
      rw [hz]
      have hml : mm.length = m.length := by have := congrArg List.length hz; simp at this; omega
      have e0 : pre ++ a :: (mm ++ [z]) ++ suf = pre ++ a :: (mm ++ z :: suf) := by simp
      have ej : ((pre.length : Int) + ((a :: (mm ++ [z])).length : Int) - 1) = ((pre.length + 1 + mm.length : Nat) : Int) := by simp; omega
      rw [ej, e0]
      have hlen : (pre ++ a :: (mm ++ z :: suf)).length = pre.length + 1 + mm.length + 1 + suf.length := by simp; omega
      have hl' : pre.length + 1 + mm.length + 1 + suf.length < 4611686018427387904 := by
        have := hl
        rw [hz, e0, hlen] at this
        exact this
      rw [if_pos (by omega), if_pos (by omega), if_pos (by rw [hlen]; omega), if_pos (by omega), if_pos (by rw [hlen]; omega)]
      have r1 : rd (pre ++ a :: (mm ++ z :: suf)) ((pre.length + 1 + mm.length : Nat) : Int) = z := by
        unfold rd
        rw [Int.toNat_natCast]
        have : pre ++ a :: (mm ++ z :: suf) = (pre ++ a :: mm) ++ z :: suf := by simp
        rw [this]
        simp [List.getD, show pre.length + 1 + mm.length = (pre ++ a :: mm).length by simp; omega]
      have r2 : rd (pre ++ a :: (mm ++ z :: suf)) (pre.length : Int) = a := by
        unfold rd
        rw [Int.toNat_natCast]
        simp [List.getD]
      rw [r1, r2, Int.toNat_natCast, Int.toNat_natCast]
      have s1 : (pre ++ a :: (mm ++ z :: suf)).set pre.length z = pre ++ z :: (mm ++ z :: suf) := by simp
      have s2 : (pre ++ z :: (mm ++ z :: suf)).set (pre.length + 1 + mm.length) a = (pre ++ [z]) ++ mm ++ (a :: suf) := by
        have : pre ++ z :: (mm ++ z :: suf) = (pre ++ z :: mm) ++ z :: suf := by simp
        rw [this, show pre.length + 1 + mm.length = (pre ++ z :: mm).length by simp; omega, List.set_append_right _ _ (Nat.le_refl _)]
        simp
      rw [s1, s2]
      have w1 : wrap64 ((pre.length : Int) + 1) = ((pre ++ [z]).length : Int) := by unfold wrap64; simp; omega
      have w2 : wrap64 (((pre.length + 1 + mm.length : Nat) : Int) - 1) = ((pre ++ [z]).length : Int) + mm.length - 1 := by unfold wrap64; simp; omega
      rw [w1, w2, rev_loop d k (pre ++ [z]) mm (a :: suf) (by simp at hd; omega) (by omega) (by simp; omega)]
      simp

theorem rev_ev (k : Nat) (l : List Int) (hk : l.length + 2 < k) (hl : l.length < 4611686018427387904) : slices_Reverse_byte_byte.f k l = some l.reverse := by
  unfold slices_Reverse_byte_byte.f
  have := rev_loop l.length k [] l [] (Nat.le_refl _) (by omega) (by simpa using hl)
  have w : wrap64 ((l.length : Int) - 1) = ((([] : List Int).length : Int) + l.length - 1) := by unfold wrap64; simp; omega
  rw [w]
  simpa using this

def sgnd (neg : Bool) (l : List Int) : List Int := if neg = true then l ++ [45] else l

/-- What stands behind the loop. -/
theorem text_end (k : Nat) (neg : Bool) (hi lo : Int) (out : List Int) (hk : out.length + 5 < k) (ho : out.length < 1000) :
    wide_Sum_Text.j2 k neg hi lo out false = some (strOfNums (sgnd neg out).reverse) := by
  obtain ⟨k, rfl⟩ : ∃ m, k = m + 1 := ⟨k - 1, by omega⟩
  simp only [wide_Sum_Text.j2]
  rw [if_neg (by decide)]
  unfold sgnd
  by_cases h : neg = true
  · rw [if_pos h, if_pos h, if_pos (by omega), rev_ev k _ (by simp; omega) (by simp; omega)]
    rfl
  · rw [if_neg h, if_neg h, rev_ev k _ (by omega) (by omega)]
    rfl

theorem text_step (k : Nat) (neg : Bool) (hi lo : Int) (out : List Int) (n : Nat) (hn : (n : Int) = hi * B64 + lo) (h0 : 0 ≤ hi) (h1 : hi ≤ 18446744073709551615) (l0 : 0 ≤ lo) (l1 : lo ≤ 18446744073709551615) (ho : out.length < 1000) :
    ∃ hi' lo' : Int, ((n / 10 : Nat) : Int) = hi' * B64 + lo' ∧ 0 ≤ hi' ∧ hi' ≤ 18446744073709551615 ∧ 0 ≤ lo' ∧ lo' ≤ 18446744073709551615 ∧
      wide_Sum_Text.j2 (k + 1) neg hi lo out true = wide_Sum_Text.l0 k neg hi' lo' (out ++ [48 + ((n % 10 : Nat) : Int)]) := by
  have hB : B64 = 18446744073709551616 := rfl
  refine ⟨hi / 10, val (hi % 10) lo / 10, ?_, by omega, by omega, ?_, ?_, ?_⟩
  · simp only [val, B64] at *; omega
  · simp only [val, B64] at *; omega
  · simp only [val, B64] at *; omega
  · simp only [wide_Sum_Text.j2, if_true]
    have e1 : bits_Div64.f 0 hi 10 = some (hi / 10, hi % 10) := by
      unfold bits_Div64.f
      rw [if_pos ⟨rfl, ⟨h0, h1⟩, by omega, by omega⟩]
      have : val 0 hi = hi := by unfold val; omega
      rw [this]
    rw [e1]
    simp only [Option.bind_some]
    have e2 : bits_Div64.f (hi % 10) lo 10 = some (val (hi % 10) lo / 10, val (hi % 10) lo % 10) := by
      unfold bits_Div64.f
      rw [if_pos ⟨rfl, ⟨l0, l1⟩, by omega, by omega⟩]
    rw [e2]
    simp only [Option.bind_some]
    rw [if_pos (by omega)]
    have e3 : (48 + val (hi % 10) lo % 10) % 256 = 48 + ((n % 10 : Nat) : Int) := by simp only [val, B64] at *; omega
    rw [e3]

theorem text_loop : ∀ (f k : Nat) (neg : Bool) (hi lo : Int) (out : List Int) (n : Nat), n < 10 ^ f → (n : Int) = hi * B64 + lo → 0 ≤ hi → hi ≤ 18446744073709551615 → 0 ≤ lo → lo ≤ 18446744073709551615 →
    out ≠ [] → out.length + f < 900 → 2 * f + out.length + f + 10 < k →
    wide_Sum_Text.l0 k neg hi lo out = some (strOfNums (sgnd neg (out ++ rdig f n)).reverse)
  | f, k, neg, hi, lo, out, n, hf, hn, h0, h1, l0, l1, hne, ho, hk => by
    obtain ⟨k, rfl⟩ : ∃ m, k = m + 1 := ⟨k - 1, by omega⟩
    have hB : B64 = 18446744073709551616 := rfl
    have hlen : out.length ≠ 0 := fun h => hne (List.length_eq_zero_iff.1 h)
    simp only [wide_Sum_Text.l0]
    rw [if_neg (by omega)]
    by_cases hz : n = 0
    · have e1 : hi = 0 := by rw [hB] at hn; omega
      have e2 : lo = 0 := by rw [hB] at hn; omega
      subst e1; subst e2
      rw [if_neg (by omega), decide_eq_false (by omega), text_end k neg 0 0 out (by omega) (by omega)]
      have : rdig f n = [] := by subst hz; cases f <;> simp [rdig]
      rw [this, List.append_nil]
    · have key : wide_Sum_Text.j2 k neg hi lo out true = some (strOfNums (sgnd neg (out ++ rdig f n)).reverse) := by
        obtain ⟨f, rfl⟩ : ∃ m, f = m + 1 := ⟨f - 1, by
          cases f with
          | zero => simp at hf; exact absurd hf hz
          | succ f => rfl⟩
        obtain ⟨k, rfl⟩ : ∃ m, k = m + 1 := ⟨k - 1, by omega⟩
        obtain ⟨hi', lo', g1, g2, g3, g4, g5, g6⟩ := text_step k neg hi lo out n hn h0 h1 l0 l1 (by omega)
        rw [g6, text_loop f k neg hi' lo' _ (n / 10) (by rw [Nat.pow_succ] at hf; omega) g1 g2 g3 g4 g5 (by simp) (by simp; omega) (by simp; omega)]
        simp only [rdig]
        rw [if_neg hz]
        simp
      by_cases hh : hi > 0
      · rw [if_pos hh]; exact key
      · rw [if_neg hh, decide_eq_true (by rw [hB] at hn; omega)]; exact key

theorem text_first (k : Nat) (neg : Bool) (hi lo : Int) (n : Nat) (hn : (n : Int) = hi * B64 + lo) (h0 : 0 ≤ hi) (h1 : hi ≤ 18446744073709551615) (l0 : 0 ≤ lo) (l1 : lo ≤ 18446744073709551615) (hk : 400 < k) (hs : n < 10 ^ 60) :
    wide_Sum_Text.l0 k neg hi lo [] = some (strOfNums (sgnd neg (decN n).reverse).reverse) := by
  obtain ⟨k, rfl⟩ : ∃ m, k = m + 1 := ⟨k - 1, by omega⟩
  obtain ⟨k, rfl⟩ : ∃ m, k = m + 1 := ⟨k - 1, by omega⟩
  simp only [wide_Sum_Text.l0]
  rw [if_pos (by simp)]
  obtain ⟨hi', lo', g1, g2, g3, g4, g5, g6⟩ := text_step k neg hi lo [] n hn h0 h1 l0 l1 (by simp)
  rw [g6, text_loop 59 k neg hi' lo' _ (n / 10) (by omega) g1 g2 g3 g4 g5 (by simp) (by simp) (by simp; omega)]
  unfold decN
  rw [decF_rdig 59 n hs]
  simp

theorem val_rng (h l : Int) (hr : Rng h l) : -170141183460469231731687303715884105728 ≤ val h l ∧ val h l ≤ 170141183460469231731687303715884105727 := by
  unfold Rng at hr
  unfold val B64
  omega

theorem text_ev (k : Nat) (h l : Int) (hr : Rng h l) (hk : 500 < k) : wide_Sum_Text.f k h l = some (strOfNums (decZ (val h l))) := by
  have v := val_rng h l hr
  obtain ⟨r1, r2, r3, r4⟩ := hr
  have hB : B64 = 18446744073709551616 := rfl
  obtain ⟨k, rfl⟩ : ∃ m, k = m + 1 := ⟨k - 1, by omega⟩
  unfold wide_Sum_Text.f decZ
  by_cases hn : h < 0
  · rw [if_pos hn, decide_eq_true hn]
    unfold wide_Sum_Neg.f
    rw [if_pos ⟨r3, r4⟩]
    simp only [Option.bind_some, wide_Sum_Text.j0]
    have en : ((val h l).natAbs : Int) = IntKind.u64.wrap (nrm (-val h l)).1 * B64 + (nrm (-val h l)).2 := by
      rw [u64w]
      have : val h l < 0 := by unfold val; rw [hB]; omega
      unfold nrm wrap64
      simp only
      rw [hB] at *
      omega
    rw [text_first k true _ _ (val h l).natAbs en (by rw [u64w, hB]; omega) (by rw [u64w, hB]; omega) (by unfold nrm; simp only; rw [hB]; omega) (by unfold nrm; simp only; rw [hB]; omega) (by omega) (by omega)]
    rw [if_pos (show val h l < 0 by unfold val; rw [hB]; omega)]
    simp [sgnd]
  · rw [if_neg hn, decide_eq_false hn]
    simp only [wide_Sum_Text.j0]
    have en : ((val h l).natAbs : Int) = IntKind.u64.wrap h * B64 + l := by
      rw [u64w]
      unfold val
      rw [hB]
      omega
    rw [text_first k false _ _ (val h l).natAbs en (by rw [u64w, hB]; omega) (by rw [u64w, hB]; omega) r3 r4 (by omega) (by omega)]
    rw [if_neg (show ¬ val h l < 0 by unfold val; rw [hB]; omega)]
    simp [sgnd]

end Go.Proofs.Ytfbmdlheajclcaa.HWide
