/- slices.IndexFunc over a slice of scantling/api.Label. -/
import Derived.Test.YtlmnniajindlgaaMem
import Derived.WalkKit
namespace Go.Proofs.Ytlmnniajindlgaa.HLabIdx2
set_option linter.unusedVariables false
open Go.RowKit Go.Proofs.Ytlmnniajindlgaa.HMem

section
variable (w : World) (ba : Option Addr) (n cap : Nat) (A B : Nat → Value) (p : Nat → Bool) (I : Nat → World → Prop) (hn : n ≤ 4611686018427387904)
  (hba : 0 < n → ∃ ad, ba = some ad ∧ ∀ k w', I k w' → ∀ h, h < n → w'.cell? (ad.add (h * 2)) = some (A h) ∧ w'.cell? { block := (ad.add (h * 2)).block, off := (ad.add (h * 2)).off + 1 } = some (B h))
  (hf : ∀ h, h < n → ∀ w', I h w' → Calls Try.prog 39 #[.agg #[A h, B h]] w' fun e w'' => e = .returned (.bool (p h)) ∧ I (h + 1) w'')
include hn hba hf

set_option maxHeartbeats 2000000 in
set_option maxRecDepth 20000 in
theorem yes (m : Nat) (hm : m < n) (hpm : p m = true) (hlt : ∀ j, j < m → p j = false) (h0 : I 0 w) :
    Calls Try.prog 45 #[.slice ba n cap, .func (.func 39) #[] #[]] w fun e w' => e = .returned (.int .i64 m) ∧ I (m + 1) w' := by
  obtain ⟨ad, rfl, hc⟩ := hba (by omega)
  have HC := Lib.hid hc
  have HF := Lib.hid hf
  have HL := Lib.hid hlt
  have HP := Lib.hid hpm
  have H0 := Lib.hid h0
  have HM := Lib.hid hm
  clear hc hf hlt hpm h0 hba hm
  go_enter Try.func45, Try.ntmps45
  go_wp2
  go_loopw [8] (fun x wr => ∃ k : Nat, k ≤ m ∧ x = .int .i64 k ∧ I k wr) (fun x _ => (n - (intOf x).toNat))
  case atStart => exact ⟨0, Nat.zero_le _, rfl, H0.out⟩
  case round =>
    obtain ⟨k, hk, rfl, hI⟩ := hrel
    have hk1 : k < n := by have := HM.out; omega
    have hk2 : (k : Int) < n := by omega
    obtain ⟨c0, c1⟩ := HC.out k wr hI k hk1
    have hI1 := HF.out k hk1 wr hI
    have HI1 := Lib.hid hI1
    clear hI1
    by_cases e : k = m
    · have hp : p k = true := by rw [e]; exact HP.out
      have HE := Lib.hid e
      clear e hI
      rw [hp] at HI1
      go_wp2_with fail
      refine HI1.out.mono ?_
      rintro e w1 ⟨rfl, i1⟩
      have I1 := Lib.hid i1
      clear i1 HI1 hp
      go_wp2
      go_ret
      exact ⟨by rw [← HE.out]; rfl, by rw [← HE.out]; exact I1.out⟩
    · have hp : p k = false := HL.out k (by omega)
      clear hI
      rw [hp] at HI1
      go_wp2_with fail
      refine HI1.out.mono ?_
      rintro e w1 ⟨rfl, i1⟩
      have I1 := Lib.hid i1
      clear i1 HI1 hp c0 c1
      go_wp2
      go_roundw
      case rel => exact ⟨k + 1, by omega, by go_num, I1.out⟩
      case measure => simp [intOf]; omega

set_option maxHeartbeats 2000000 in
set_option maxRecDepth 20000 in
theorem no (hlt : ∀ j, j < n → p j = false) (h0 : I 0 w) :
    Calls Try.prog 45 #[.slice ba n cap, .func (.func 39) #[] #[]] w fun e w' => e = .returned (.int .i64 (-1)) ∧ I n w' := by
  have HB := Lib.hid hba
  have HF := Lib.hid hf
  have HL := Lib.hid hlt
  have H0 := Lib.hid h0
  clear hf hlt h0 hba
  go_enter Try.func45, Try.ntmps45
  go_wp2
  go_loopw [8] (fun x wr => ∃ k : Nat, k ≤ n ∧ x = .int .i64 k ∧ I k wr) (fun x _ => (n - (intOf x).toNat))
  case atStart => exact ⟨0, Nat.zero_le _, rfl, H0.out⟩
  case round =>
    obtain ⟨k, hk, rfl, hI⟩ := hrel
    rcases Nat.lt_or_ge k n with hk1 | hk1
    · have hk2 : (k : Int) < n := by omega
      obtain ⟨ad, rfl, hc⟩ := HB.out (by omega)
      have HC := Lib.hid hc
      clear hc
      obtain ⟨c0, c1⟩ := HC.out k wr hI k hk1
      have hI1 := HF.out k hk1 wr hI
      have HI1 := Lib.hid hI1
      clear hI1
      have hp : p k = false := HL.out k (by omega)
      clear hI
      rw [hp] at HI1
      go_wp2_with fail
      refine HI1.out.mono ?_
      rintro e w1 ⟨rfl, i1⟩
      have I1 := Lib.hid i1
      clear i1 HI1 hp c0 c1
      go_wp2
      go_roundw
      case rel => exact ⟨k + 1, by omega, by go_num, I1.out⟩
      case measure => simp [intOf]; omega
    · have hk2 : ¬ (k : Int) < n := by omega
      have hI' := Lib.hid (show I n wr by rw [show n = k by omega]; exact hI)
      clear hI
      go_wp2
      go_ret
      exact ⟨rfl, hI'.out⟩
end
end Go.Proofs.Ytlmnniajindlgaa.HLabIdx2
