/- The plain law of WideTexts. -/
import Derived.Test.YtfbmdlheajclcaaPrint3
import Derived.Test.YtfbmdlheajclcaaWideCanon
namespace Go.Proofs.Ytfbmdlheajclcaa.Pure
open Go.RowKit Go.Proofs.Ytfbmdlheajclcaa.Print Go.Proofs.Ytfbmdlheajclcaa.HWide Go.Proofs.YtfbmdlheajclcaaW.PrintWords Go.Proofs.YtfbmdlheajclcaaW.PrintLast

theorem decF_len : ∀ (f n : Nat), (decF f n).length ≤ f
  | 0, _ => by simp [decF]
  | f + 1, n => by
    unfold decF
    by_cases h : n < 10
    · rw [if_pos h]; simp
    · rw [if_neg h]
      have := decF_len f (n / 10)
      simp; omega
theorem decZ_len (v : Int) : (decZ v).length ≤ 61 := by
  have := decF_len 60 v.natAbs
  unfold decZ decN
  by_cases h : v < 0
  · rw [if_pos h]; simp; omega
  · rw [if_neg h]; omega

theorem texts_not (n : Int) (hn : Sm n) (j : Nat) (hj : j < 10) :
    ¬ Canon (bytesOf (([(⟨#[]⟩ : ByteArray), (⟨#[45]⟩ : ByteArray), (⟨#[43]⟩ : ByteArray) ++ strOfNums (decZ n), (⟨#[48]⟩ : ByteArray) ++ strOfNums (decZ n), strOfNums (decZ n) ++ (⟨#[120]⟩ : ByteArray), (⟨#[32]⟩ : ByteArray) ++ strOfNums (decZ n), strOfNums (decZ n) ++ (⟨#[32]⟩ : ByteArray), (⟨#[45, 48]⟩ : ByteArray), strOfNums (decZ n) ++ (⟨#[46, 48]⟩ : ByteArray), (⟨#[45, 45, 49]⟩ : ByteArray)] : List ByteArray).getD j ByteArray.empty)) := by
  have hb := canon_bytes (decZ_canon n hn)
  have hne := decZ_ne n hn
  have hc : j = 0 ∨ j = 1 ∨ j = 2 ∨ j = 3 ∨ j = 4 ∨ j = 5 ∨ j = 6 ∨ j = 7 ∨ j = 8 ∨ j = 9 := by omega
  rcases hc with rfl | rfl | rfl | rfl | rfl | rfl | rfl | rfl | rfl | rfl
  · show ¬ Canon []
    rintro (e | ⟨c, r, e, -⟩ | ⟨c, r, e, -⟩) <;> simp at e
  · show ¬ Canon [45]
    rintro (e | ⟨c, r, e, a, -⟩ | ⟨c, r, e, -⟩)
    · simp at e
    · simp at e; omega
    · simp at e
  · show ¬ Canon (bytesOf (_ ++ _))
    rw [bytes_app]
    exact not_canon_mem 43 (by simp [bytesOf]) (by omega)
  · show ¬ Canon (bytesOf (_ ++ _))
    rw [bytes_app, hb]
    exact not_canon_zero hne
  · show ¬ Canon (bytesOf (_ ++ _))
    rw [bytes_app]
    exact not_canon_mem 120 (by simp [bytesOf]) (by omega)
  · show ¬ Canon (bytesOf (_ ++ _))
    rw [bytes_app]
    exact not_canon_mem 32 (by simp [bytesOf]) (by omega)
  · show ¬ Canon (bytesOf (_ ++ _))
    rw [bytes_app]
    exact not_canon_mem 32 (by simp [bytesOf]) (by omega)
  · show ¬ Canon [45, 48]
    rintro (e | ⟨c, r, e, a, -⟩ | ⟨c, r, e, a, -⟩)
    · simp at e
    · simp at e; omega
    · simp at e; omega
  · show ¬ Canon (bytesOf (_ ++ _))
    rw [bytes_app]
    exact not_canon_mem 46 (by simp [bytesOf]) (by omega)
  · show ¬ Canon [45, 45, 49]
    rintro (e | ⟨c, r, e, a, -⟩ | ⟨c, r, e, a, -⟩)
    · simp at e
    · simp at e; omega
    · simp at e; omega

theorem texts_size (n : Int) (j : Nat) (hj : j < 10) :
    (([(⟨#[]⟩ : ByteArray), (⟨#[45]⟩ : ByteArray), (⟨#[43]⟩ : ByteArray) ++ strOfNums (decZ n), (⟨#[48]⟩ : ByteArray) ++ strOfNums (decZ n), strOfNums (decZ n) ++ (⟨#[120]⟩ : ByteArray), (⟨#[32]⟩ : ByteArray) ++ strOfNums (decZ n), strOfNums (decZ n) ++ (⟨#[32]⟩ : ByteArray), (⟨#[45, 48]⟩ : ByteArray), strOfNums (decZ n) ++ (⟨#[46, 48]⟩ : ByteArray), (⟨#[45, 45, 49]⟩ : ByteArray)] : List ByteArray).getD j ByteArray.empty).size ≤ 140737488355328 := by
  have hl := decZ_len n
  have hs : (strOfNums (decZ n)).size = (decZ n).length := strOfNums_size _
  have hc : j = 0 ∨ j = 1 ∨ j = 2 ∨ j = 3 ∨ j = 4 ∨ j = 5 ∨ j = 6 ∨ j = 7 ∨ j = 8 ∨ j = 9 := by omega
  rcases hc with rfl | rfl | rfl | rfl | rfl | rfl | rfl | rfl | rfl | rfl <;> simp [ByteArray.size_append, hs] <;> simp [ByteArray.size] <;> omega

theorem WideTexts : scantlinglaw02_WideTexts.Pure := by
  intro a0 a1 h0 h1
  have b0 : 0 ≤ a0 ∧ a0 ≤ 255 := by simpa [Lit.wf, IntKind.min, IntKind.max, IntKind.signed, IntKind.bits] using h0
  have b1 : -9223372036854775808 ≤ a1 ∧ a1 ≤ 9223372036854775807 := by simpa [Lit.wf, IntKind.min, IntKind.max, IntKind.signed, IntKind.bits] using h1
  have hS : Sm a1 := by unfold Sm; omega
  have hl := decZ_len a1
  have hs : (strOfNums (decZ a1)).size = (decZ a1).length := strOfNums_size _
  have ej : Int.tmod (wrap64 a0) 10 = ((a0 % 10).toNat : Int) := by
    have : wrap64 a0 = a0 := by unfold wrap64; omega
    rw [this, Int.tmod_eq_emod_of_nonneg (by omega)]
    omega
  have hj : (a0 % 10).toNat < 10 := by omega
  unfold scantlinglaw02_WideTexts.f
  simp only [scantlinglaw02_examples.f, Option.bind_some, if_true, of_is a1 ⟨b1.1, by omega⟩, text_is a1 hS]
  have T := texts_not a1 hS _ hj
  have Z := texts_size a1 _ hj
  obtain ⟨d, hd⟩ : ∃ d, d = strOfNums (decZ a1) := ⟨_, rfl⟩
  rw [← hd] at T Z hs ⊢
  rw [if_pos (by omega), if_pos (by omega), if_pos (by omega)]
  obtain ⟨l, hL⟩ : ∃ l : List ByteArray, l = [(⟨#[]⟩ : ByteArray), (⟨#[45]⟩ : ByteArray), (⟨#[43]⟩ : ByteArray) ++ d, (⟨#[48]⟩ : ByteArray) ++ d, d ++ (⟨#[120]⟩ : ByteArray), (⟨#[32]⟩ : ByteArray) ++ d, d ++ (⟨#[32]⟩ : ByteArray), (⟨#[45, 48]⟩ : ByteArray), d ++ (⟨#[46, 48]⟩ : ByteArray), (⟨#[45, 45, 49]⟩ : ByteArray)] := ⟨_, rfl⟩
  have hlen : (l.length : Int) = 10 := by rw [hL]; rfl
  rw [← hL] at T Z ⊢
  rw [hlen, if_neg (by decide), ej, if_pos (by omega), if_pos (by omega)]
  have er : rdOf ByteArray.empty l ((a0 % 10).toNat : Int) = l.getD (a0 % 10).toNat ByteArray.empty := rfl
  rw [er]
  unfold wide_Read.f
  rw [if_pos Z, read_not _ T]
  rfl

end Go.Proofs.Ytfbmdlheajclcaa.Pure
