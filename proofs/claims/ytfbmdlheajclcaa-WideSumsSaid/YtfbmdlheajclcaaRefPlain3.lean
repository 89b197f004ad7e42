/- What the document's own Read answers. -/
import Derived.Test.YtfbmdlheajclcaaRefPlain2
namespace Go.Proofs.Ytfbmdlheajclcaa.HRef
open Go.RowKit Go.Proofs.Ytfbmdlheajclcaa.Print Go.Proofs.Ytfbmdlheajclcaa.HWide Go.Proofs.YtfbmdlheajclcaaW.PrintWords Go.Proofs.YtfbmdlheajclcaaW.PrintLast Go.Proofs.YtfbmdlheajclcaaW.PrintMore

def rf (l : List Int) (u : Int) : Int := l.foldl (fun x c => if 48 ≤ c ∧ c ≤ 57 then 10 * x + (c - 48) else x) u
theorem radd (u v : Int) : scantlingref02_Sum_Add.f (nrm u).1 (nrm u).2 (nrm v).1 (nrm v).2 = some (nrm (u + v)) := by
  rw [refAdd _ _ _ _ (nrm_rng u) (nrm_rng v), nrm_add_any, nrm_add_any']
theorem nrm_small (d : Int) (h : 0 ≤ d ∧ d ≤ 9) : nrm d = (0, d) := by
  unfold nrm wrap64 B64
  simp only [Prod.mk.injEq]
  omega
theorem read_j2 (k : Nat) (s : ByteArray) (i : Nat) (u c : Int) (hi : i < s.size) (hi2 : i < 45) (hc : bt s (i : Int) = c) (b : Bool) (hb : b = decide (48 ≤ c ∧ c ≤ 57)) :
    scantlingref02_Read.j2 (k + 1) s (i : Int) b (nrm u).1 (nrm u).2 = scantlingref02_Read.l0 k s ((i + 1 : Nat) : Int) (nrm (if 48 ≤ c ∧ c ≤ 57 then 10 * u + (c - 48) else u)).1 (nrm (if 48 ≤ c ∧ c ≤ 57 then 10 * u + (c - 48) else u)).2 := by
  have w2 : wrap64 ((i : Int) + 1) = ((i + 1 : Nat) : Int) := by unfold wrap64; omega
  rw [scantlingref02_Read.j2, hc, w2]
  by_cases h : 48 ≤ c ∧ c ≤ 57
  · rw [if_pos (by rw [hb]; simpa using h), if_pos h, radd, Option.bind_some, radd, Option.bind_some, radd, Option.bind_some, radd, Option.bind_some, radd, Option.bind_some, if_pos (by omega), if_pos (by omega)]
    have e1 : (c - 48) % 256 = c - 48 := by omega
    have e2 := radd (u + u + (u + u) + (u + u) + (u + u) + (u + u)) (c - 48)
    rw [nrm_small (c - 48) (by omega)] at e2
    rw [e1, e2, Option.bind_some, show u + u + (u + u) + (u + u) + (u + u) + (u + u) + (c - 48) = 10 * u + (c - 48) by omega]
  · rw [if_neg (by rw [hb]; simpa using h), if_neg h]
theorem read_l0 (s : ByteArray) : ∀ (d k i : Nat) (u : Int), i + d = min s.size 45 →
    scantlingref02_Read.l0 (k + 3 * d + 2) s (i : Int) (nrm u).1 (nrm u).2 = scantlingref02_Read.j3 k s (isNeg s) (nrm (rf (((bytesOf s).drop i).take d) u)).1 (nrm (rf (((bytesOf s).drop i).take d) u)).2
  | 0, k, i, u, h => by
    have hj : scantlingref02_Read.l0 (k + 3 * 0 + 2) s (i : Int) (nrm u).1 (nrm u).2 = scantlingref02_Read.j1 (k + 1) s (i : Int) false (nrm u).1 (nrm u).2 := by
      rw [show k + 3 * 0 + 2 = (k + 1) + 1 by omega, scantlingref02_Read.l0]
      by_cases hi : i < s.size
      · rw [if_pos (by omega), show decide ((i : Int) < 45) = false by simp; omega]
      · rw [if_neg (by omega)]
    rw [hj, scantlingref02_Read.j1, if_neg (by simp)]
    simp only [List.take_zero, rf, List.foldl_nil]
    have ht : s.toList = s.data.toList := Lib.toList_data s
    have hl : s.data.toList.length = s.size := data_length s
    by_cases h0 : 0 < s.size
    · have hne : ¬ s.toList = [] := by
        intro e
        rw [ht] at e
        rw [e] at hl
        simp at hl; omega
      have en : isNeg s = (bt s 0 == 45) := by
        unfold isNeg
        rw [dif_pos h0]
        have := bt_is s 0 h0
        rw [show ((0 : Nat) : Int) = 0 from rfl] at this
        rw [this]
      rw [if_neg hne, if_pos (by omega), en]
    · have he : s.toList = [] := by
        rw [ht]
        exact List.length_eq_zero_iff.1 (by omega)
      have en : isNeg s = false := by
        unfold isNeg
        rw [dif_neg h0]
      rw [if_pos he, en]
  | d + 1, k, i, u, h => by
    have hi : i < s.size := by omega
    have hl : (bytesOf s).length = s.size := bytesOf_length s
    have hc := bt_is s i hi
    obtain ⟨c, ec⟩ : ∃ c, c = bt s (i : Int) := ⟨_, rfl⟩
    have hd : ((bytesOf s).drop i).take (d + 1) = c :: ((bytesOf s).drop (i + 1)).take d := by
      rw [drop_byte s i hi, List.take_succ_cons, ec, hc]
    rw [hd, show k + 3 * (d + 1) + 2 = (k + 3 * d + 2 + 1 + 1) + 1 by omega, scantlingref02_Read.l0, if_pos (by omega), show decide ((i : Int) < 45) = true by simp; omega]
    rw [scantlingref02_Read.j1, if_pos rfl, if_pos (by omega), if_pos (by omega), ← ec]
    have hj : (if c ≥ 48 then scantlingref02_Read.j2 (k + 3 * d + 2 + 1) s (i : Int) (decide (c ≤ 57)) (nrm u).1 (nrm u).2 else scantlingref02_Read.j2 (k + 3 * d + 2 + 1) s (i : Int) false (nrm u).1 (nrm u).2) = scantlingref02_Read.j2 (k + 3 * d + 2 + 1) s (i : Int) (decide (48 ≤ c ∧ c ≤ 57)) (nrm u).1 (nrm u).2 := by
      by_cases hg : c ≥ 48
      · rw [if_pos hg]; congr 1; rw [Bool.eq_iff_iff]; simp; omega
      · rw [if_neg hg]; congr 1; symm; simp; omega
    rw [hj, read_j2 _ s i u c hi (by omega) ec.symm _ rfl, read_l0 s d k (i + 1) _ (by omega)]
    rfl
theorem rf_digits : ∀ (l : List Int) (u : Int), (∀ x ∈ l, 48 ≤ x ∧ x ≤ 57) → rf l u = horner u l
  | [], _, _ => rfl
  | c :: r, u, h => by
    have hc := h c (by simp)
    have := rf_digits r (10 * u + (c - 48)) (fun x hx => h x (by simp [hx]))
    unfold rf horner at *
    rw [List.foldl_cons, List.foldl_cons, if_pos hc]
    exact this
/-- What the loop, and the sign, come to. -/
def refW (s : ByteArray) : Int := if isNeg s = true then -rf ((bytesOf s).take (min s.size 45)) 0 else rf ((bytesOf s).take (min s.size 45)) 0
theorem refW_dec (v : Int) (h : Sm v) : refW (strOfNums (decZ v)) = v := by
  have hb := canon_bytes (decZ_canon v h)
  have hl := decN_39 v h
  have hlz : (decZ v).length ≤ 40 := by
    unfold decZ
    split
    · simp; omega
    · omega
  have hh : horner 0 (decN v.natAbs) = v.natAbs := horner_decF 60 _ (Sm_lt v h)
  have hd : ∀ x ∈ decN v.natAbs, 48 ≤ x ∧ x ≤ 57 := decF_dig 60 v.natAbs
  unfold refW
  rw [strOfNums_size, hb, List.take_of_length_le (by omega)]
  by_cases hv : v < 0
  · have e : decZ v = 45 :: decN v.natAbs := by unfold decZ; rw [if_pos hv]
    rw [e] at hb ⊢
    have er : rf (45 :: decN v.natAbs) 0 = rf (decN v.natAbs) 0 := rfl
    rw [isNeg_bytes _ _ _ hb, if_pos (by decide), er, rf_digits _ _ hd, hh]
    omega
  · have e : decZ v = decN v.natAbs := by unfold decZ; rw [if_neg hv]
    rw [e] at hb ⊢
    have hr := rf_digits _ 0 hd
    rw [hh] at hr
    cases hc : decN v.natAbs with
    | nil => exact absurd (e.trans hc) (decZ_ne v h)
    | cons c r =>
      rw [hc] at hb hr
      have := hd c (by rw [hc]; simp)
      rw [isNeg_bytes _ _ _ hb, if_neg (by simp; omega), hr]
      omega
theorem read_end (k : Nat) (s : ByteArray) (u W : Int) (hW : W = if isNeg s = true then -u else u) (hk : 600 < k) :
    scantlingref02_Read.j3 (k + 1) s (isNeg s) (nrm u).1 (nrm u).2 = if strOfNums (decZ (val (nrm W).1 (nrm W).2)) = s then some ((nrm W).1, (nrm W).2, true) else some (0, 0, false) := by
  have hT := refText k (nrm W).1 (nrm W).2 (nrm_rng W) hk
  have hiff : ∀ t : ByteArray, (t.toList = s.toList) ↔ t = s := fun t => by
    constructor
    · intro e
      rw [Lib.toList_data, Lib.toList_data] at e
      exact ByteArray.ext (Array.toList_inj.1 e)
    · rintro rfl; rfl
  rw [scantlingref02_Read.j3]
  by_cases hn : isNeg s = true
  · rw [if_pos hn] at hW ⊢
    subst hW
    have hN : scantlingref02_Sum_Neg.f (nrm u).1 (nrm u).2 = some (nrm (-u)) := by
      unfold scantlingref02_Sum_Neg.f
      rw [if_pos (nrm_rng u), nrm_neg_any]
    rw [hN, Option.bind_some, hT, Option.bind_some]
    by_cases he : strOfNums (decZ (val (nrm (-u)).1 (nrm (-u)).2)) = s
    · rw [if_pos ((hiff _).2 he), if_pos he]
    · rw [if_neg (fun e => he ((hiff _).1 e)), if_neg he]
  · rw [if_neg hn] at hW ⊢
    subst hW
    rw [hT, Option.bind_some]
    by_cases he : strOfNums (decZ (val (nrm W).1 (nrm W).2)) = s
    · rw [if_pos ((hiff _).2 he), if_pos he]
    · rw [if_neg (fun e => he ((hiff _).1 e)), if_neg he]
theorem refRead (k : Nat) (s : ByteArray) (hk : 1000 < k) : scantlingref02_Read.f k s = some ((readR s).1.1, (readR s).1.2, (readR s).2) := by
  obtain ⟨m, hm, rfl⟩ : ∃ m, 600 < m ∧ k = (m + 1) + 3 * (min s.size 45) + 2 := ⟨k - 3 * (min s.size 45) - 3, by omega, by omega⟩
  unfold scantlingref02_Read.f
  have h0 := read_l0 s (min s.size 45) (m + 1) 0 0 (by omega)
  rw [nrm_zero, show ((0 : Nat) : Int) = 0 from rfl, List.drop_zero] at h0
  rw [h0, read_end m s _ (refW s) rfl hm]
  have hS := val_Sm _ _ (nrm_rng (refW s))
  by_cases he : strOfNums (decZ (val (nrm (refW s)).1 (nrm (refW s)).2)) = s
  · rw [if_pos he]
    have hr := read_dec _ hS
    rw [he, nrm_val _ _ (nrm_rng _)] at hr
    rw [hr]
  · rw [if_neg he]
    have hno : readR s = ((0, 0), false) := by
      refine readR_no s fun e => he ?_
      have hf := val_Sm _ _ (finR_rng s (absR_rng s))
      have hw := refW_dec _ hf
      rw [e] at hw
      rw [hw, nrm_val _ _ (finR_rng s (absR_rng s))]
      exact e
    rw [hno]

end Go.Proofs.Ytfbmdlheajclcaa.HRef
