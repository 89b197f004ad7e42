/- What the document's own Put, Get, Read answer. -/
import Derived.Test.YtfbmdlheajclcaaRefPlain
namespace Go.Proofs.Ytfbmdlheajclcaa.HRef
open Go.RowKit Go.Proofs.Ytfbmdlheajclcaa.Print Go.Proofs.Ytfbmdlheajclcaa.HWide Go.Proofs.YtfbmdlheajclcaaW.PrintWords Go.Proofs.YtfbmdlheajclcaaW.PrintLast Go.Proofs.YtfbmdlheajclcaaW.PrintMore

theorem sh_is (x : Int) (i : Nat) (hi : i < 8) : wrap64 (56 - wrap64 (8 * (i : Int))) = ((56 - 8 * i : Nat) : Int) ∧ shr .u64 x (wrap64 (56 - wrap64 (8 * (i : Int)))) % 256 = hb x i ∧ wrap64 ((i : Int) + 1) = ((i + 1 : Nat) : Int) := by
  have e : wrap64 (56 - wrap64 (8 * (i : Int))) = ((56 - 8 * i : Nat) : Int) := by unfold wrap64; omega
  refine ⟨e, ?_, by unfold wrap64; omega⟩
  rw [e]
  unfold shr hb
  rw [Int.toNat_natCast, Nat.min_eq_left (by simp only [IntKind.bits]; omega)]
theorem put_l1 (a b : Int) : ∀ (d k i : Nat) (x : List Int), i + d = 8 → x.length + d ≤ 100 →
    scantlingref02_Sum_Put.l1 (k + d + 1) x (i : Int) a b = some (strOfNums (x ++ (List.range' i d).map fun j => hb b j))
  | 0, k, i, x, h, hx => by
    rw [scantlingref02_Sum_Put.l1, if_neg (by omega)]
    simp
  | d + 1, k, i, x, h, hx => by
    obtain ⟨s1, s2, s3⟩ := sh_is b i (by omega)
    rw [show k + (d + 1) + 1 = (k + d + 1) + 1 by omega, scantlingref02_Sum_Put.l1, if_pos (by omega), if_pos (by rw [s1]; omega), if_pos (by omega), s2, s3, put_l1 a b d k (i + 1) _ (by omega) (by simp; omega)]
    rw [List.range'_succ]
    simp
theorem put_l0 (a b : Int) : ∀ (d k i : Nat) (x : List Int), i + d = 8 → x.length + d ≤ 50 →
    scantlingref02_Sum_Put.l0 (k + d + 1) x (i : Int) a b = scantlingref02_Sum_Put.l1 k (x ++ (List.range' i d).map fun j => hb (IntKind.u64.wrap a) j) 0 a b
  | 0, k, i, x, h, hx => by
    rw [scantlingref02_Sum_Put.l0, if_neg (by omega)]
    simp
  | d + 1, k, i, x, h, hx => by
    obtain ⟨s1, s2, s3⟩ := sh_is (IntKind.u64.wrap a) i (by omega)
    rw [show k + (d + 1) + 1 = (k + d + 1) + 1 by omega, scantlingref02_Sum_Put.l0, if_pos (by omega), if_pos (by rw [s1]; omega), if_pos (by omega), s2, s3, put_l0 a b d k (i + 1) _ (by omega) (by simp; omega)]
    rw [List.range'_succ]
    simp
theorem refPut (k : Nat) (a b : Int) (hk : 30 < k) : scantlingref02_Sum_Put.f k a b = some (strOfNums (putN a b)) := by
  obtain ⟨m, rfl⟩ : ∃ m, k = ((m + 8 + 1) + 8 + 1) := ⟨k - 18, by omega⟩
  unfold scantlingref02_Sum_Put.f
  have h0 := put_l0 a b 8 (m + 8 + 1) 0 [] rfl (by simp)
  have h1 := put_l1 a b 8 m 0 ([] ++ (List.range' 0 8).map fun j => hb (IntKind.u64.wrap a) j) rfl (by simp)
  rw [show ((0 : Nat) : Int) = 0 from rfl] at h0 h1
  rw [h0, h1, putN_split]
  rfl

theorem bt_is (s : ByteArray) (i : Nat) (h : i < s.size) : bt s (i : Int) = (s[i].toNat : Int) := by
  rw [← bt_at s (i : Int) h]; rfl
theorem get_l0 (s : ByteArray) (hs : s.size = 16) : ∀ (d k i : Nat), i + d = 8 →
    scantlingref02_Get.l0 (k + d + 1) s (gHi s i) (gLo s (8 + i)) (i : Int) = some (wrap64 (gHi s 16), gLo s 16, true)
  | 0, k, i, h => by
    have : i = 8 := by omega
    subst this
    rw [scantlingref02_Get.l0, if_neg (by omega)]
    rfl
  | d + 1, k, i, h => by
    have w1 : wrap64 (8 + (i : Int)) = ((8 + i : Nat) : Int) := by unfold wrap64; omega
    have w2 : wrap64 ((i : Int) + 1) = ((i + 1 : Nat) : Int) := by unfold wrap64; omega
    have n1 := gHi_next s i (by omega) (by omega)
    have n2 := gLo_next s (8 + i) (by omega) (by omega)
    have b1 : IntKind.u64.wrap (bt s (i : Int)) = (s[i].toNat : Int) := by
      have := (s[i]).toNat_lt
      rw [bt_is s i (by omega), IntKind.wrap_u64]; omega
    have b2 : IntKind.u64.wrap (bt s ((8 + i : Nat) : Int)) = (s[8 + i].toNat : Int) := by
      have := (s[8 + i]).toNat_lt
      rw [bt_is s (8 + i) (by omega), IntKind.wrap_u64]; omega
    rw [show k + (d + 1) + 1 = (k + d + 1) + 1 by omega, scantlingref02_Get.l0, if_pos (by omega), if_pos (by omega), if_pos (by omega), w1, if_pos (by omega), if_pos (by omega), w2, b1, b2]
    have i1 : Go.bits .or .u64 (IntKind.u64.wrap (gHi s i * 256)) (s[i].toNat : Int) = gHi s (i + 1) := n1.symm
    have i2 : Go.bits .or .u64 (IntKind.u64.wrap (gLo s (8 + i) * 256)) (s[8 + i].toNat : Int) = gLo s (8 + (i + 1)) := n2.symm
    rw [i1, i2]
    exact get_l0 s hs d k (i + 1) (by omega)
/-- Eight bytes whose number is 0 are 0. -/
theorem zero_fold : ∀ (l : List Int) (x : Int) (m : Nat), (∀ c ∈ l, 0 ≤ c ∧ c ≤ 255) → 0 ≤ x → x < 2 ^ (8 * m) → m + l.length ≤ 8 → l.foldl gst x = 0 → x = 0 ∧ ∀ c ∈ l, c = 0
  | [], x, m, _, _, _, _, h => ⟨h, by simp⟩
  | c :: r, x, m, hl, h0, h1, hm, h => by
    have hc := hl c (by simp)
    simp only [List.length_cons] at hm
    have h56 : (2 : Int) ^ (8 * m) ≤ 2 ^ 56 := by
      have := Nat.pow_le_pow_right (n := 2) (by decide) (show 8 * m ≤ 56 by omega)
      exact_mod_cast this
    have hx : x < 72057594037927936 := Int.lt_of_lt_of_le h1 h56
    have e := gst_is x c h0 hx hc.1 (by omega)
    rw [List.foldl_cons, e] at h
    have hp : (2 : Int) ^ (8 * (m + 1)) = 2 ^ (8 * m) * 256 := by
      rw [show 8 * (m + 1) = 8 * m + 8 by omega, Int.pow_add]; rfl
    have := zero_fold r (x * 256 + c) (m + 1) (fun c' h' => hl c' (by simp [h'])) (by omega) (by rw [hp]; omega) (by omega) h
    refine ⟨by omega, fun c' h' => ?_⟩
    rcases List.mem_cons.1 h' with rfl | h'
    · omega
    · exact this.2 c' h'
theorem fold_rng : ∀ (l : List Int) (x : Int) (m : Nat), (∀ c ∈ l, 0 ≤ c ∧ c ≤ 255) → 0 ≤ x → x < 2 ^ (8 * m) → m + l.length ≤ 8 → 0 ≤ l.foldl gst x ∧ l.foldl gst x < 2 ^ (8 * (m + l.length))
  | [], x, m, _, h0, h1, _ => ⟨h0, h1⟩
  | c :: r, x, m, hl, h0, h1, hm => by
    have hc := hl c (by simp)
    simp only [List.length_cons] at hm ⊢
    have h56 : (2 : Int) ^ (8 * m) ≤ 2 ^ 56 := by
      have := Nat.pow_le_pow_right (n := 2) (by decide) (show 8 * m ≤ 56 by omega)
      exact_mod_cast this
    have hx : x < 72057594037927936 := Int.lt_of_lt_of_le h1 h56
    have e := gst_is x c h0 hx hc.1 (by omega)
    have hp : (2 : Int) ^ (8 * (m + 1)) = 2 ^ (8 * m) * 256 := by
      rw [show 8 * (m + 1) = 8 * m + 8 by omega, Int.pow_add]; rfl
    have := fold_rng r (x * 256 + c) (m + 1) (fun c' h' => hl c' (by simp [h'])) (by omega) (by rw [hp]; omega) (by omega)
    rw [List.foldl_cons, e, show m + (r.length + 1) = m + 1 + r.length by omega]
    exact this
theorem bytes_rng (s : ByteArray) : ∀ c ∈ bytesOf s, 0 ≤ c ∧ c ≤ 255 := by
  intro c h
  obtain ⟨b, _, rfl⟩ := List.mem_map.1 h
  have := b.toNat_lt
  omega
theorem get_true (s : ByteArray) (hs : s.size = 16) : getR s = ((wrap64 (gHi s 16), gLo s 16), true) := by
  by_cases h : wrap64 (gHi s 16) = 0 ∧ gLo s 16 = 0
  · rw [getR_zero s hs h.1 h.2]
    have hl : (bytesOf s).length = 16 := by rw [bytesOf_length, hs]
    have r1 : ∀ c ∈ (bytesOf s).take (min 16 8), 0 ≤ c ∧ c ≤ 255 := fun c hc => bytes_rng s c (List.mem_of_mem_take hc)
    have r2 : ∀ c ∈ ((bytesOf s).drop 8).take (16 - 8), 0 ≤ c ∧ c ≤ 255 := fun c hc => bytes_rng s c (List.mem_of_mem_drop (List.mem_of_mem_take hc))
    have hz1 : gHi s 16 = 0 := by
      -- the number is below 2^64
      have : 0 ≤ gHi s 16 ∧ gHi s 16 ≤ 18446744073709551615 := by
        have hr := fold_rng _ 0 0 r1 (by omega) (by decide) (by simp [hl])
        have e8 : ((bytesOf s).take (min 16 8)).length = 8 := by simp [hl]
        rw [e8] at hr
        have e64 : (2 : Int) ^ (8 * (0 + 8)) = 18446744073709551616 := by decide
        rw [e64] at hr
        have hr' : 0 ≤ gHi s 16 ∧ gHi s 16 < 18446744073709551616 := hr
        omega
      have h1 := h.1
      unfold wrap64 at h1
      omega
    have z1 := (zero_fold _ 0 0 r1 (by omega) (by decide) (by simp [hl]) hz1).2
    have z2 := (zero_fold _ 0 0 r2 (by omega) (by decide) (by simp [hl]) h.2).2
    have hb0 : bytesOf s = List.replicate 16 0 := by
      rw [List.eq_replicate_iff]
      refine ⟨hl, fun c hc => ?_⟩
      rw [← List.take_append_drop 8 (bytesOf s)] at hc
      rcases List.mem_append.1 hc with hc | hc
      · exact z1 c hc
      · exact z2 c (by rw [List.take_of_length_le (by simp [hl])]; exact hc)
    have hs0 : s = zero16 := by
      refine ByteArray.ext (Array.toList_inj.1 ?_)
      unfold zero16
      rw [strOfNums_data, ← hb0]
      unfold bytesOf
      rw [List.map_map]
      conv => lhs; rw [← List.map_id s.data.toList]
      refine List.map_congr_left fun b _ => ?_
      simp
    rw [hs0]
    simp
  · exact getR_yes s hs h
theorem refGet (k : Nat) (s : ByteArray) (hk : 20 < k) : scantlingref02_Get.f k s = some ((getR s).1.1, (getR s).1.2, (getR s).2) := by
  unfold scantlingref02_Get.f
  by_cases hs : s.size = 16
  · rw [if_pos (by omega), get_true s hs]
    obtain ⟨m, rfl⟩ : ∃ m, k = m + 8 + 1 := ⟨k - 9, by omega⟩
    exact get_l0 s hs 8 m 0 rfl
  · rw [if_neg (by omega), getR_no s hs]

end Go.Proofs.Ytfbmdlheajclcaa.HRef
