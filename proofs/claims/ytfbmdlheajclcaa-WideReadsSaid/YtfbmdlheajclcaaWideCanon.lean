/- The texts of sums: no zero ahead, no plus, only digits behind the sign. -/
import Derived.Test.YtfbmdlheajclcaaWidePlain
namespace Go.Proofs.Ytfbmdlheajclcaa.HWide
open Go.RowKit Go.Proofs.Ytfbmdlheajclcaa.Print Go.Proofs.YtfbmdlheajclcaaW.PrintWords Go.Proofs.YtfbmdlheajclcaaW.PrintLast Go.Proofs.YtfbmdlheajclcaaW.PrintMore

theorem bytes_str (l : List Int) (h : ∀ x ∈ l, 0 ≤ x ∧ x ≤ 255) : bytesOf (strOfNums l) = l := by
  unfold bytesOf
  rw [strOfNums_data, List.map_map]
  conv => rhs; rw [← List.map_id l]
  refine List.map_congr_left fun x hx => ?_
  have := h x hx
  simp only [Function.comp, id, UInt8.toNat_ofNat']
  omega
theorem bytes_app (a b : ByteArray) : bytesOf (a ++ b) = bytesOf a ++ bytesOf b := by
  unfold bytesOf
  rw [ByteArray.data_append, Array.toList_append, List.map_append]

theorem decF_dig : ∀ (f n : Nat), ∀ x ∈ decF f n, 48 ≤ x ∧ x ≤ 57
  | 0, _, x, h => by simp [decF] at h
  | f + 1, n, x, h => by
    unfold decF at h
    by_cases hn : n < 10
    · rw [if_pos hn] at h
      simp at h; omega
    · rw [if_neg hn] at h
      rcases List.mem_append.1 h with h | h
      · exact decF_dig f _ x h
      · simp at h; omega
theorem decF_head : ∀ (f n : Nat), 0 < n → n < 10 ^ f → ∃ c r, decF f n = c :: r ∧ 49 ≤ c
  | 0, n, h0, h1 => by simp at h1; omega
  | f + 1, n, h0, h1 => by
    unfold decF
    by_cases hn : n < 10
    · rw [if_pos hn]; exact ⟨_, _, rfl, by omega⟩
    · rw [if_neg hn]
      obtain ⟨c, r, e, hc⟩ := decF_head f (n / 10) (by omega) (by rw [Nat.pow_succ] at h1; omega)
      exact ⟨c, r ++ _, by rw [e]; rfl, hc⟩
theorem decF_zero (f : Nat) : decF (f + 1) 0 = [48] := rfl

/-- What every text of a sum is. -/
def Canon (l : List Int) : Prop := l = [48] ∨ (∃ c r, l = c :: r ∧ 49 ≤ c ∧ c ≤ 57 ∧ ∀ x ∈ r, 48 ≤ x ∧ x ≤ 57) ∨ (∃ c r, l = 45 :: c :: r ∧ 49 ≤ c ∧ c ≤ 57 ∧ ∀ x ∈ r, 48 ≤ x ∧ x ≤ 57)
theorem Sm_lt (v : Int) (h : Sm v) : v.natAbs < 10 ^ 60 := by
  unfold Sm at h
  have : v.natAbs ≤ 170141183460469231731687303715884105728 := by omega
  exact Nat.lt_of_le_of_lt this (by decide +kernel)
theorem decN_pos (n : Nat) (h0 : 0 < n) (h : n < 10 ^ 60) : ∃ c r, decN n = c :: r ∧ 49 ≤ c ∧ c ≤ 57 ∧ ∀ x ∈ r, 48 ≤ x ∧ x ≤ 57 := by
  obtain ⟨c, r, e, hc⟩ := decF_head 60 n h0 h
  have hd := decF_dig 60 n
  rw [e] at hd
  exact ⟨c, r, e, hc, (hd c (by simp)).2, fun x hx => hd x (by simp [hx])⟩
theorem decZ_canon (v : Int) (h : Sm v) : Canon (decZ v) := by
  have hlt := Sm_lt v h
  unfold decZ
  by_cases hv : v < 0
  · rw [if_pos hv]
    obtain ⟨c, r, e, a, b, d⟩ := decN_pos v.natAbs (by omega) hlt
    rw [e]
    exact .inr (.inr ⟨c, r, rfl, a, b, d⟩)
  · rw [if_neg hv]
    by_cases h0 : v = 0
    · subst h0; exact .inl rfl
    · obtain ⟨c, r, e, a, b, d⟩ := decN_pos v.natAbs (by omega) hlt
      rw [e]
      exact .inr (.inl ⟨c, r, rfl, a, b, d⟩)
theorem canon_mem {l : List Int} (h : Canon l) : ∀ x ∈ l, x = 45 ∨ (48 ≤ x ∧ x ≤ 57) := by
  intro x hx
  rcases h with rfl | ⟨c, r, rfl, a, b, d⟩ | ⟨c, r, rfl, a, b, d⟩
  · simp at hx; omega
  · rcases List.mem_cons.1 hx with rfl | hx
    · omega
    · exact .inr (d x hx)
  · rcases List.mem_cons.1 hx with rfl | hx
    · omega
    · rcases List.mem_cons.1 hx with rfl | hx
      · omega
      · exact .inr (d x hx)
theorem canon_bytes {l : List Int} (h : Canon l) : bytesOf (strOfNums l) = l := bytes_str l fun x hx => by
  have := canon_mem h x hx
  omega
theorem parse_rng : ∀ (l : List Int) (k : Nat) (a : Int × Int), Rng a.1 a.2 → Rng (parse l k a).1 (parse l k a).2
  | [], k, a, h => h
  | c :: r, k, a, h => by
    unfold parse
    split
    · exact parse_rng r _ a h
    · split
      · exact h
      · exact parse_rng r _ _ (nrm_rng _)
theorem absR_rng (s : ByteArray) : Rng (absR s).1 (absR s).2 := parse_rng _ _ _ (by decide)
/-- A text that is no sum's is refused. -/
theorem read_not (t : ByteArray) (h : ¬ Canon (bytesOf t)) : readR t = ((0, 0), false) := by
  refine readR_no t fun e => h ?_
  have hr := finR_rng t (absR_rng t)
  have hc := decZ_canon _ (val_Sm _ _ hr)
  rw [← e, canon_bytes hc]
  exact hc
theorem not_canon_mem {l : List Int} (x : Int) (hx : x ∈ l) (h : x ≠ 45 ∧ ¬ (48 ≤ x ∧ x ≤ 57)) : ¬ Canon l := fun hc => by
  have := canon_mem hc x hx
  omega
theorem not_canon_zero {l : List Int} (h : l ≠ []) : ¬ Canon (48 :: l) := by
  rintro (e | ⟨c, r, e, a, -⟩ | ⟨c, r, e, -⟩)
  · simp at e; exact h e
  · simp at e; omega
  · simp at e
theorem decZ_ne (v : Int) (h : Sm v) : decZ v ≠ [] := by
  rcases decZ_canon v h with e | ⟨c, r, e, -⟩ | ⟨c, r, e, -⟩ <;> rw [e] <;> simp

end Go.Proofs.Ytfbmdlheajclcaa.HWide
