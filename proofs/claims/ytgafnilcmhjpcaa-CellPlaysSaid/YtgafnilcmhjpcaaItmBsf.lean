/- slices.BinarySearchFunc over a slice of scantling/hist.Item. -/
import Derived.Test.YtgafnilcmhjpcaaMem
import Derived.WalkKit
import Derived.WalkSpells
import Derived.WalkLawsBesides
namespace Go.Proofs.Ytgafnilcmhjpcaa.HItmBsf
set_option linter.unusedVariables false
open Go.RowKit Go.Proofs.Ytgafnilcmhjpcaa.HMem

/-- Is it there? -/
def fnd (p n : Nat) (f : Nat → Int) : Bool := decide (p < n ∧ f p = 0)
theorem fnd_yes {p n : Nat} {f : Nat → Int} (h1 : p < n) (h2 : f p = 0) : fnd p n f = true := decide_eq_true ⟨h1, h2⟩
theorem fnd_no {p n : Nat} {f : Nat → Int} (h : ¬ (p < n ∧ f p = 0)) : fnd p n f = false := decide_eq_false h

set_option maxHeartbeats 2000000 in
set_option maxRecDepth 20000 in
theorem any (w : World) (ba : Option Addr) (n cap : Nat) (A B : Nat → Value) (tv : Value) (f : Nat → Int) (p : Nat) (hn : n ≤ 4611686018427387904)
    (hba : 0 < n → ∃ g off, ba = some ⟨g, off, none⟩ ∧ ∀ h, h < n → w.cell? ⟨g, off + h * 2, none⟩ = some (A h) ∧ w.cell? ⟨g, off + h * 2 + 1, none⟩ = some (B h))
    (hf : ∀ h, h < n → ∀ w', Below w.heap.size w w' → Calls Try.prog 81 #[.agg #[A h, B h], tv] w' fun e w'' => e = .returned (.int .i64 (f h)) ∧ Below w'.heap.size w' w'')
    (hp : p ≤ n) (hm : ∀ h, h < n → (f h < 0 ↔ h < p)) :
    Calls Try.prog 80 #[.slice ba n cap, tv, .func (.func 81) #[] #[]] w fun e w' => e = .returned (.tuple #[.int .i64 p, .bool (fnd p n f)]) ∧ Below w.heap.size w w' := by
  have HBA := Lib.hid hba
  have HF := Lib.hid hf
  have HM := Lib.hid hm
  have HN := Lib.hid hn
  have HP := Lib.hid hp
  clear hba hf hm hp
  go_enter Try.func80, Try.ntmps80
  go_wp2
  go_loopw [9, 10] (fun x y wr => ∃ i j : Nat, i ≤ p ∧ p ≤ j ∧ j ≤ n ∧ x = .int .i64 i ∧ y = .int .i64 j ∧ Below w.heap.size w wr) (fun x y _ => (intOf y - intOf x).toNat)
  case atStart => exact ⟨0, n, Nat.zero_le _, HP.out, Nat.le_refl _, rfl, rfl, Below.refl _ _⟩
  case round =>
    obtain ⟨i, j, hip, hpj, hjn, rfl, rfl, bk⟩ := hrel
    have BK := Lib.hid bk
    have HIP := Lib.hid hip
    have HPJ := Lib.hid hpj
    have HJN := Lib.hid hjn
    clear bk hip hpj hjn
    by_cases hlt : i < j
    · obtain ⟨h, hh⟩ : ∃ h, h = (i + j) / 2 := ⟨_, rfl⟩
      have hhn : h < n := by have := HJN.out; omega
      obtain ⟨g, off, rfl, hA⟩ := HBA.out (by omega)
      have HA := Lib.hid hA
      clear hA
      have hij : i + j ≤ 9223372036854775807 := by have := HN.out; have := HJN.out; omega
      have c0 : wr.cell? ⟨g, off + (i + j) / 2 * 2, none⟩ = some (A h) := by rw [← hh]; rw [BK.out.cell (World.block_lt_of_cell? _ _ (HA.out h hhn).1)]; exact (HA.out h hhn).1
      have c1 : wr.cell? ⟨g, off + (i + j) / 2 * 2 + 1, none⟩ = some (B h) := by rw [← hh]; rw [BK.out.cell (World.block_lt_of_cell? _ _ (HA.out h hhn).2)]; exact (HA.out h hhn).2
      have e1 : (i : Int) < j := by omega
      have e2 : ((i : Int) + (j : Int)) / 2 < (n : Int) := by omega
      have e3 : (0 : Int) ≤ ((i : Int) + (j : Int)) / 2 := by omega
      have HH := Lib.hid hh
      clear hh
      have hm := HM.out h hhn
      have hfh := HF.out h hhn
      by_cases hneg : f h < 0
      · have hhp := hm.1 hneg
        have HFH := Lib.hid hfh
        have HHP := Lib.hid hhp
        clear hm hfh hhp
        go_wp2_with fail
        refine (HFH.out _ BK.out).mono ?_
        rintro e w1 ⟨rfl, b1⟩
        have B1 := Lib.hid (BK.out.trans (b1.mono BK.out.size))
        clear b1 c0 c1
        go_wp2
        go_roundw
        case rel => exact ⟨h + 1, j, HHP.out, HPJ.out, HJN.out, by rw [HH.out]; go_num, rfl, B1.out⟩
        case measure => have := HH.out; simp [intOf]; omega
      · have hhp : p ≤ h := by have : ¬ h < p := fun h' => hneg (hm.2 h'); omega
        have HFH := Lib.hid hfh
        have HHP := Lib.hid hhp
        clear hm hfh hhp
        go_wp2_with fail
        refine (HFH.out _ BK.out).mono ?_
        rintro e w1 ⟨rfl, b1⟩
        have B1 := Lib.hid (BK.out.trans (b1.mono BK.out.size))
        clear b1 c0 c1
        go_wp2
        go_roundw
        case rel => exact ⟨i, h, HIP.out, HHP.out, by omega, rfl, by rw [HH.out]; go_num, B1.out⟩
        case measure => have := HH.out; simp [intOf]; omega
    · obtain rfl : i = p := by have := HIP.out; have := HPJ.out; omega
      have hij : ¬ (i : Int) < j := by omega
      by_cases hin : i < n
      · obtain ⟨g, off, rfl, hA⟩ := HBA.out (by omega)
        have HA := Lib.hid hA
        clear hA
        have hfh := HF.out i hin
        have hin2 : (i : Int) < n := by omega
        have c0 : wr.cell? ⟨g, off + i * 2, none⟩ = some (A i) := by  rw [BK.out.cell (World.block_lt_of_cell? _ _ (HA.out i hin).1)]; exact (HA.out i hin).1
        have c1 : wr.cell? ⟨g, off + i * 2 + 1, none⟩ = some (B i) := by  rw [BK.out.cell (World.block_lt_of_cell? _ _ (HA.out i hin).2)]; exact (HA.out i hin).2
        have HFH := Lib.hid hfh
        have HIN := Lib.hid hin
        clear hfh hlt hin
        by_cases hz : f i = 0
        · have hz2 : (f i == 0) = true := by rw [beq_iff_eq]; exact hz
          have HZ := Lib.hid hz
          clear hz
          go_wp2_with fail
          refine (HFH.out _ BK.out).mono ?_
          rintro e w1 ⟨rfl, b1⟩
          have B1 := Lib.hid (BK.out.trans (b1.mono BK.out.size))
          clear b1
          go_wp2
          go_ret2
          exact ⟨by rw [fnd_yes HIN.out HZ.out]; (first | rfl | simp [hz2]), B1.out⟩
        · have hz2 : (f i == 0) = false := by rw [beq_eq_false_iff_ne]; exact hz
          have HZ := Lib.hid hz
          clear hz
          go_wp2_with fail
          refine (HFH.out _ BK.out).mono ?_
          rintro e w1 ⟨rfl, b1⟩
          have B1 := Lib.hid (BK.out.trans (b1.mono BK.out.size))
          clear b1
          go_wp2
          go_ret2
          exact ⟨by rw [fnd_no fun h => HZ.out h.2]; (first | rfl | simp [hz2]), B1.out⟩
      · have hin2 : ¬ (i : Int) < n := by omega
        have HIN := Lib.hid hin
        clear hlt hin
        go_wp2
        go_ret2
        exact ⟨by rw [fnd_no fun h => HIN.out h.1]; (first | rfl | simp), BK.out⟩

end Go.Proofs.Ytgafnilcmhjpcaa.HItmBsf
