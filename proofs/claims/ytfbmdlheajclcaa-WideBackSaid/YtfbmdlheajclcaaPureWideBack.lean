/- The plain law of WideBack. -/
import Derived.Test.YtfbmdlheajclcaaPrint3
import Derived.Test.YtfbmdlheajclcaaWideRound
namespace Go.Proofs.Ytfbmdlheajclcaa.Pure
open Go.RowKit Go.Proofs.Ytfbmdlheajclcaa.Print Go.Proofs.Ytfbmdlheajclcaa.HWide Go.Proofs.YtfbmdlheajclcaaW.PrintWords Go.Proofs.YtfbmdlheajclcaaW.PrintLast

theorem WideBack (a b : Int) (ha : (Lit.int .i64 a).wf = true) (hb : (Lit.int .u64 b).wf = true) : scantlinglaw02_WideBack.f a b = some true := by
  have b0 : -9223372036854775808 ≤ a ∧ a ≤ 9223372036854775807 := by simpa [Lit.wf, IntKind.min, IntKind.max, IntKind.signed, IntKind.bits] using ha
  have b1 : 0 ≤ b ∧ b ≤ 18446744073709551615 := by simpa [Lit.wf, IntKind.min, IntKind.max, IntKind.signed, IntKind.bits] using hb
  have hR : Rng a b := ⟨b0.1, b0.2, b1.1, b1.2⟩
  have hS := val_Sm a b hR
  have hn := nrm_val a b hR
  have hl := decN_39 _ hS
  have hlz : (decZ (val a b)).length ≤ 40 := by
    unfold decZ
    split
    · simp; omega
    · omega
  have ht : wide_Sum_Text.f a b = some (strOfNums (decZ (val a b))) := by
    have := text_is (val a b) hS
    rw [hn] at this
    exact this
  have hs : (strOfNums (decZ (val a b))).size = (decZ (val a b)).length := strOfNums_size _
  have hr : wide_Read.f (strOfNums (decZ (val a b))) = some (a, b, true) := by
    unfold wide_Read.f
    rw [if_pos (by omega), read_dec _ hS, hn]
  have hz : wide_Read.f ((⟨#[48]⟩ : ByteArray) ++ strOfNums (decZ (val a b))) = some (0, 0, false) := by
    unfold wide_Read.f
    have hc : ¬ Canon (bytesOf ((⟨#[48]⟩ : ByteArray) ++ strOfNums (decZ (val a b)))) := by
      rw [bytes_app, canon_bytes (decZ_canon _ hS)]
      exact not_canon_zero (decZ_ne _ hS)
    rw [if_pos (by rw [ByteArray.size_append, hs]; simp [ByteArray.size]; omega), read_not _ hc]
  have hp : wide_Sum_Put.f a b = some (strOfNums (putN a b)) := rfl
  have hps := putN_size a b
  have hg : wide_Get.f (strOfNums (putN a b)) = some (a, b, true) := by
    unfold wide_Get.f
    rw [get_put a b hR]
  have hg1 : wide_Get.f ((strOfNums (putN a b)).extract 1 (strOfNums (putN a b)).size) = some (0, 0, false) := by
    unfold wide_Get.f
    rw [getR_no _ (by simp [ByteArray.size_extract, hps])]
  obtain ⟨t, et⟩ : ∃ t, t = strOfNums (decZ (val a b)) := ⟨_, rfl⟩
  obtain ⟨p, ep⟩ : ∃ t, t = strOfNums (putN a b) := ⟨_, rfl⟩
  rw [← et] at ht hr hz hs
  rw [← ep] at hp hps hg hg1
  unfold scantlinglaw02_WideBack.f
  simp only [scantlinglaw02_examples.f, Option.bind_some, if_true, ht, hr, hp, hg]
  rw [if_pos (by omega)]
  simp only [hg1, Option.bind_some]
  rw [if_pos (by omega)]
  simp only [hz, Option.bind_some]
  simp

end Go.Proofs.Ytfbmdlheajclcaa.Pure
