/- The plain law of WideReads. -/
import Derived.Test.YtfbmdlheajclcaaPrintR6
import Derived.Test.YtfbmdlheajclcaaRefPlain3
namespace Go.Proofs.Ytfbmdlheajclcaa.Pure
open Go.RowKit Go.Proofs.Ytfbmdlheajclcaa.Print Go.Proofs.Ytfbmdlheajclcaa.HWide Go.Proofs.Ytfbmdlheajclcaa.HBend Go.Proofs.Ytfbmdlheajclcaa.HRef Go.Proofs.YtfbmdlheajclcaaW.PrintWords Go.Proofs.YtfbmdlheajclcaaW.PrintLast

theorem reads_j0 (k : Nat) (p t : ByteArray) (hk : 1000 < k) (ht : t.size ≤ 140737488355328) : scantlinglaw02_WideReads.j0 (k + 1) p true t = some true := by
  have h1 : wide_Read.f t = some ((readR t).1.1, (readR t).1.2, (readR t).2) := by unfold wide_Read.f; rw [if_pos ht]
  have h2 := refRead k t hk
  have h3 : wide_Get.f p = some ((getR p).1.1, (getR p).1.2, (getR p).2) := rfl
  have h4 := refGet k p (by omega)
  have h5 : ∀ a b, scantlinglaw02_ref.f a b = some (a, b) := fun _ _ => rfl
  rw [scantlinglaw02_WideReads.j0, h1, Option.bind_some, h2, Option.bind_some, h3, Option.bind_some, h4, Option.bind_some, if_pos rfl, h5, Option.bind_some]
  simp [h5]
theorem WideReads (a b : Int) (s : ByteArray) (own : Bool) (at_ by_ : Int) (ha : (Lit.int .i64 a).wf = true) (hb : (Lit.int .u64 b).wf = true) (hs : s.size ≤ 140737488351232) (hat : (Lit.int .i64 at_).wf = true) (hby : (Lit.int .u8 by_).wf = true) :
    scantlinglaw02_WideReads.f 2000 a b s own at_ by_ = some true := by
  have hR : Rng a b := by
    have b0 : -9223372036854775808 ≤ a ∧ a ≤ 9223372036854775807 := by simpa [Lit.wf, IntKind.min, IntKind.max, IntKind.signed, IntKind.bits] using ha
    have b1 : 0 ≤ b ∧ b ≤ 18446744073709551615 := by simpa [Lit.wf, IntKind.min, IntKind.max, IntKind.signed, IntKind.bits] using hb
    exact ⟨b0.1, b0.2, b1.1, b1.2⟩
  have a0 : -9223372036854775808 ≤ at_ ∧ at_ ≤ 9223372036854775807 := by simpa [Lit.wf, IntKind.min, IntKind.max, IntKind.signed, IntKind.bits] using hat
  have a1 : 0 ≤ by_ ∧ by_ ≤ 255 := by simpa [Lit.wf, IntKind.min, IntKind.max, IntKind.signed, IntKind.bits] using hby
  have h5 : ∀ a b, scantlinglaw02_ref.f a b = some (a, b) := fun _ _ => rfl
  have hB : ∀ t : ByteArray, t.size ≤ 1000 → scantlinglaw02_bend.f t at_ by_ = some (bendS t at_ by_) := fun t ht => by
    unfold scantlinglaw02_bend.f
    rw [if_pos ⟨a0, a1, by omega⟩]
  unfold scantlinglaw02_WideReads.f
  simp only [scantlinglaw02_examples.f, Option.bind_some, if_true]
  by_cases ho : own = true
  · have hS := val_Sm a b hR
    have hl := decN_39 _ hS
    have hlz : (decZ (val a b)).length ≤ 40 := by
      unfold decZ
      split
      · simp; omega
      · omega
    have ht : (strOfNums (decZ (val a b))).size ≤ 1000 := by rw [strOfNums_size]; omega
    have hp : (strOfNums (putN a b)).size ≤ 1000 := by rw [putN_size]; omega
    rw [if_pos ho, h5, Option.bind_some, refText 2000 a b hR (by omega), Option.bind_some, hB _ ht, Option.bind_some, Option.bind_some, refPut 2000 a b (by omega), Option.bind_some, hB _ hp, Option.bind_some]
    exact reads_j0 1999 _ _ (by omega) (by rw [bendS_size]; omega)
  · rw [if_neg ho]
    exact reads_j0 1999 _ _ (by omega) (by omega)

end Go.Proofs.Ytfbmdlheajclcaa.Pure
