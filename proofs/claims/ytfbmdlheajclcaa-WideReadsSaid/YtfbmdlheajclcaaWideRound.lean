/- What is told is read, and what is put is got. -/
import Derived.Test.YtfbmdlheajclcaaWideCanon
import Derived.Laws.BitsAllLaws
namespace Go.Proofs.Ytfbmdlheajclcaa.HWide
open Go.RowKit Go.Proofs.Ytfbmdlheajclcaa.Print Go.Proofs.YtfbmdlheajclcaaW.PrintWords Go.Proofs.YtfbmdlheajclcaaW.PrintLast Go.Proofs.YtfbmdlheajclcaaW.PrintMore

/-- The number that digits are, gone on with. -/
def horner (u : Int) (l : List Int) : Int := l.foldl (fun x c => 10 * x + (c - 48)) u
theorem nrm_ten (u d : Int) : nrm (10 * val (nrm u).1 (nrm u).2 + d) = nrm (10 * u + d) := by
  obtain ⟨k, hk⟩ := val_nrm_any u
  exact nrm_turn _ _ (10 * k) (by omega)
theorem parse_digits : ∀ (l : List Int) (k : Nat) (u : Int), (∀ x ∈ l, 48 ≤ x ∧ x ≤ 57) → k + l.length ≤ 40 → parse l k (nrm u) = nrm (horner u l)
  | [], k, u, _, _ => rfl
  | c :: r, k, u, h, hl => by
    have hc := h c (by simp)
    simp only [List.length_cons] at hl
    rw [parse_digit r k c _ (by omega) (by omega), nrm_ten, parse_digits r (k + 1) _ (fun x hx => h x (by simp [hx])) (by omega)]
    rfl
theorem horner_decF : ∀ (f n : Nat), n < 10 ^ f → horner 0 (decF f n) = n
  | 0, n, h => by
    have : n = 0 := by simpa using h
    subst this; rfl
  | f + 1, n, h => by
    unfold decF
    by_cases hn : n < 10
    · rw [if_pos hn]; simp [horner]; omega
    · rw [if_neg hn]
      have ih := horner_decF f (n / 10) (by rw [Nat.pow_succ] at h; omega)
      unfold horner at ih ⊢
      rw [List.foldl_append, ih]
      simp; omega
theorem decF_len_lt : ∀ (f m n : Nat), 1 ≤ m → n < 10 ^ m → (decF f n).length ≤ m
  | 0, _, _, _, _ => by simp [decF]
  | f + 1, m, n, hm, h => by
    unfold decF
    by_cases hn : n < 10
    · rw [if_pos hn]; simpa using hm
    · rw [if_neg hn]
      obtain ⟨m, rfl⟩ : ∃ k, m = k + 1 := ⟨m - 1, by omega⟩
      have : 1 ≤ m := by
        rcases Nat.eq_zero_or_pos m with rfl | h'
        · simp at h; omega
        · exact h'
      have := decF_len_lt f m (n / 10) this (by rw [Nat.pow_succ] at h; omega)
      simp; omega
theorem decN_39 (v : Int) (h : Sm v) : (decN v.natAbs).length ≤ 39 := by
  unfold Sm at h
  refine decF_len_lt 60 39 _ (by decide) ?_
  have : v.natAbs ≤ 170141183460469231731687303715884105728 := by omega
  exact Nat.lt_of_le_of_lt this (by decide +kernel)
theorem isNeg_bytes (s : ByteArray) (c : Int) (r : List Int) (h : bytesOf s = c :: r) : isNeg s = (c == 45) := by
  have hs : 0 < s.size := by
    have := bytesOf_length s
    rw [h] at this
    simp at this; omega
  have e := drop_byte s 0 hs
  rw [List.drop_zero, h] at e
  unfold isNeg
  rw [dif_pos hs, (List.cons.inj e).1]
theorem nrm_zero : nrm 0 = (0, 0) := by decide +kernel
theorem finR_dec (v : Int) (h : Sm v) : finR (strOfNums (decZ v)) = nrm v := by
  have hb := canon_bytes (decZ_canon v h)
  have hl := decN_39 v h
  have hh : horner 0 (decN v.natAbs) = v.natAbs := horner_decF 60 _ (Sm_lt v h)
  have hd : ∀ x ∈ decN v.natAbs, 48 ≤ x ∧ x ≤ 57 := decF_dig 60 v.natAbs
  unfold finR absR
  rw [hb]
  by_cases hv : v < 0
  · have e : decZ v = 45 :: decN v.natAbs := by unfold decZ; rw [if_pos hv]
    rw [e] at hb ⊢
    rw [isNeg_bytes _ _ _ hb, if_pos (by decide), parse_sign _ _ _ _ ⟨rfl, rfl⟩, ← nrm_zero, parse_digits _ _ _ hd (by omega), hh, nrm_neg_any]
    congr 1; omega
  · have e : decZ v = decN v.natAbs := by unfold decZ; rw [if_neg hv]
    have hp : parse (decN v.natAbs) 0 (0, 0) = nrm v := by
      rw [← nrm_zero, parse_digits _ _ _ hd (by omega), hh]
      congr 1; omega
    rw [e] at hb ⊢
    rw [hp]
    cases hc : decN v.natAbs with
    | nil => exact absurd (e.trans hc) (decZ_ne v h)
    | cons c r =>
      rw [hc] at hb
      have := hd c (by rw [hc]; simp)
      rw [isNeg_bytes _ _ _ hb, if_neg (by simp; omega)]
theorem read_dec (v : Int) (h : Sm v) : readR (strOfNums (decZ v)) = (nrm v, true) := by
  have hf := finR_dec v h
  have := readR_yes (strOfNums (decZ v)) (by rw [hf, val_nrm v h])
  rw [this, hf]

/-- Bytes put, got. -/
theorem gst_is (x c : Int) (h0 : 0 ≤ x) (h1 : x < 72057594037927936) (c0 : 0 ≤ c) (c1 : c < 256) : gst x c = x * 256 + c := by
  unfold gst
  have hw : IntKind.u64.wrap (x * 256) = x * 256 := by rw [IntKind.wrap_u64]; omega
  rw [hw, u64_or _ _ (by omega) (by omega) c0 (by omega)]
  have e : (x * 256).toNat = 2 ^ 8 * x.toNat := by omega
  rw [e, ← Nat.two_pow_add_eq_or_of_lt (by omega)]
  omega
theorem eight (x : Int) (h0 : 0 ≤ x) (h1 : x ≤ 18446744073709551615) : gfold ((List.range 8).map fun i => hb x i) = x := by
  have e : (List.range 8).map (fun i => hb x i) = [x / 72057594037927936 % 256, x / 281474976710656 % 256, x / 1099511627776 % 256, x / 4294967296 % 256, x / 16777216 % 256, x / 65536 % 256, x / 256 % 256, x / 1 % 256] := rfl
  rw [e]
  simp only [gfold, List.foldl_cons, List.foldl_nil]
  rw [gst_is 0 _ (by omega) (by omega) (by omega) (by omega)]
  rw [gst_is _ (x / 281474976710656 % 256) (by omega) (by omega) (by omega) (by omega)]
  rw [gst_is _ (x / 1099511627776 % 256) (by omega) (by omega) (by omega) (by omega)]
  rw [gst_is _ (x / 4294967296 % 256) (by omega) (by omega) (by omega) (by omega)]
  rw [gst_is _ (x / 16777216 % 256) (by omega) (by omega) (by omega) (by omega)]
  rw [gst_is _ (x / 65536 % 256) (by omega) (by omega) (by omega) (by omega)]
  rw [gst_is _ (x / 256 % 256) (by omega) (by omega) (by omega) (by omega)]
  rw [gst_is _ (x / 1 % 256) (by omega) (by omega) (by omega) (by omega)]
  omega
theorem putN_split (a b : Int) : putN a b = ((List.range 8).map fun i => hb (IntKind.u64.wrap a) i) ++ ((List.range 8).map fun i => hb b i) := rfl
theorem hb_byte (x : Int) (i : Nat) : 0 ≤ hb x i ∧ hb x i ≤ 255 := by
  unfold hb
  have := Int.emod_nonneg (x / 2 ^ (56 - 8 * i)) (show (256 : Int) ≠ 0 by decide)
  have := Int.emod_lt_of_pos (x / 2 ^ (56 - 8 * i)) (show (0 : Int) < 256 by decide)
  omega
theorem putN_bytes (a b : Int) : bytesOf (strOfNums (putN a b)) = putN a b := bytes_str _ fun x hx => by
  rw [putN_split] at hx
  rcases List.mem_append.1 hx with hx | hx
  · obtain ⟨i, _, rfl⟩ := List.mem_map.1 hx; exact hb_byte _ _
  · obtain ⟨i, _, rfl⟩ := List.mem_map.1 hx; exact hb_byte _ _
theorem putN_size (a b : Int) : (strOfNums (putN a b)).size = 16 := by rw [strOfNums_size]; simp [putN]
theorem get_put (a b : Int) (hr : Rng a b) : getR (strOfNums (putN a b)) = ((a, b), true) := by
  unfold Rng at hr
  have hs := putN_size a b
  have h1 : gHi (strOfNums (putN a b)) 16 = IntKind.u64.wrap a := by
    unfold gHi
    rw [putN_bytes, putN_split, List.take_left' (by simp)]
    exact eight _ (by rw [IntKind.wrap_u64]; omega) (by rw [IntKind.wrap_u64]; omega)
  have h2 : gLo (strOfNums (putN a b)) 16 = b := by
    unfold gLo
    rw [putN_bytes, putN_split, List.drop_left' (by simp), List.take_of_length_le (by simp)]
    exact eight _ (by omega) (by omega)
  have h3 : wrap64 (IntKind.u64.wrap a) = a := by rw [IntKind.wrap_u64]; unfold wrap64; omega
  by_cases hz : a = 0 ∧ b = 0
  · obtain ⟨rfl, rfl⟩ := hz
    decide +kernel
  · rw [getR_yes _ hs (by rw [h1, h2, h3]; exact hz), h1, h2, h3]

end Go.Proofs.Ytfbmdlheajclcaa.HWide
