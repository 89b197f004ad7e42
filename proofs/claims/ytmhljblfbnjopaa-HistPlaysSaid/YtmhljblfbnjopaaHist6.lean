/- Histograms: Quantile, walked. -/
import Derived.Test.YtmhljblfbnjopaaHist5
namespace Go.Proofs.Ytmhljblfbnjopaa.HHist
set_option linter.unusedVariables false
open Go.RowKit Go.Proofs.Ytmhljblfbnjopaa.HMem Go.Proofs.Ytmhljblfbnjopaa.HBucket
open Go.Proofs.Ytmhljblfbnjopaa.Print (I64)

/-- The bounds of a part, the error. -/
def quantL (b : Nat) (l : IL) (num den : Nat) : Int × Int × Int :=
  if den < 1 ∨ 1000000 < den ∨ den < num then (0, 0, 1) else if total l = 0 then (0, 0, 5) else
    (loZ b (rankZ l (max ((total l * num + den - 1) / den) 1)).1, hiZ b (rankZ l (max ((total l * num + den - 1) / den) 1)).1, 0)
theorem rankL_mem : ∀ (l : IL) (r : Nat) (a : Int), rankL l r = some a → ∃ x ∈ l, x.1 = a
  | [], r, a, h => by simp [rankL] at h
  | x :: t, r, a, h => by
    rw [rankL] at h
    split at h
    · exact ⟨x, by simp, by simpa using h⟩
    · obtain ⟨y, hy, e⟩ := rankL_mem t _ a h
      exact ⟨y, by simp [hy], e⟩
theorem rankZ_range {b : Nat} {l : IL} (h : HOk b l) (r : Nat) : -(mostN b : Int) - 1 ≤ (rankZ l r).1 ∧ (rankZ l r).1 ≤ mostN b := by
  unfold rankZ
  split
  · show _ ≤ (0 : Int) ∧ (0 : Int) ≤ _; omega
  · split
    · rename_i a ha
      obtain ⟨x, hx, rfl⟩ := rankL_mem l r a ha
      exact (h.item x hx).2
    · show _ ≤ (0 : Int) ∧ (0 : Int) ≤ _; omega
theorem quant_eq (T num den : Nat) (h0 : 1 ≤ den) (hb : T * num + den - 1 < 18446744073709551616) : max (IntKind.u64.wrap ((((T : Int) * (num : Int) + (den : Int) - 1)).tdiv (den : Int))) 1 = ((max ((T * num + den - 1) / den) 1 : Nat) : Int) := by
  have e : (T : Int) * (num : Int) + (den : Int) - 1 = ((T * num + den - 1 : Nat) : Int) := by
    rw [Int.natCast_sub (by omega)]
    simp
  have hd := Nat.div_le_self (T * num + den - 1) den
  obtain ⟨z, hz⟩ : ∃ z, z = (T * num + den - 1) / den := ⟨_, rfl⟩
  have e2 : ((T * num + den - 1 : Nat) : Int).tdiv (den : Int) = (z : Int) := by rw [Int.tdiv_eq_ediv_of_nonneg (by omega), hz]; rfl
  rw [e, e2, ← hz, u64_in _ (by omega) (by omega)]
  omega

set_option maxHeartbeats 1000000 in
set_option maxRecDepth 20000 in
theorem Quantile_any {w : World} {p : Nat} {G : List Nat} {b : Nat} {l : IL} (h : HistAt w p G b l) (ho : HOk b l) (num den : Nat) (hnum : num < 18446744073709551616) (hden : den < 18446744073709551616) :
    Calls Try.prog 21 #[.pointer (some ⟨p, 0, none⟩), .int .u64 num, .int .u64 den] w fun e w' => e = .returned (.tuple #[.int .i64 (quantL b l num den).1, .int .i64 (quantL b l num den).2.1, .int .i64 (quantL b l num den).2.2]) ∧ Below w.heap.size w w' := by
  obtain ⟨c0, c2, _⟩ := h.cells
  have H := Lib.hid h
  have HO := Lib.hid ho
  by_cases h1 : den < 1
  · have E := Lib.hid (show quantL b l num den = (0, 0, 1) from if_pos (.inl h1))
    have t1 : decide ((den : Int) < 1) = true := by simp; omega
    clear h ho
    go_enter Try.func21, Try.ntmps21
    go_wp2
    go_ret3
    exact ⟨by rw [E.out]; rfl, Below.refl _ _⟩
  by_cases h2 : 1000000 < den
  · have E := Lib.hid (show quantL b l num den = (0, 0, 1) from if_pos (.inr (.inl h2)))
    have t1 : decide ((den : Int) < 1) = false := by simp; omega
    have t2 : decide (1000000 < (den : Int)) = true := by simp; omega
    clear h ho
    go_enter Try.func21, Try.ntmps21
    go_wp2
    go_ret3
    exact ⟨by rw [E.out]; rfl, Below.refl _ _⟩
  have t1 : decide ((den : Int) < 1) = false := by simp; omega
  have t2 : decide (1000000 < (den : Int)) = false := by simp; omega
  by_cases h3 : den < num
  · have E := Lib.hid (show quantL b l num den = (0, 0, 1) from if_pos (.inr (.inr h3)))
    have t3 : decide ((den : Int) < (num : Int)) = true := by simp; omega
    clear h ho
    go_enter Try.func21, Try.ntmps21
    go_wp2
    go_ret3
    exact ⟨by rw [E.out]; rfl, Below.refl _ _⟩
  have t3 : decide ((den : Int) < (num : Int)) = false := by simp; omega
  have t3' : decide (den < num) = false := by simp; omega
  have hh : ¬ (den < 1 ∨ 1000000 < den ∨ den < num) := by omega
  by_cases h4 : total l = 0
  · have E := Lib.hid (show quantL b l num den = (0, 0, 5) by unfold quantL; rw [if_neg hh, if_pos h4])
    rw [h4] at c2
    clear h ho hh h4
    go_enter Try.func21, Try.ntmps21
    go_wp2
    go_ret3
    exact ⟨by rw [E.out]; rfl, Below.refl _ _⟩
  · obtain ⟨r, hr⟩ : ∃ r, r = max ((total l * num + den - 1) / den) 1 := ⟨_, rfl⟩
    have E := Lib.hid (show quantL b l num den = (loZ b (rankZ l r).1, hiZ b (rankZ l r).1, 0) by unfold quantL; rw [if_neg hh, if_neg h4, ← hr])
    have hT := ho.total
    obtain ⟨T, hT1⟩ : ∃ T, T = total l := ⟨_, rfl⟩
    rw [← hT1] at c2 hT h4 hr
    have t4 : (((T : Nat) : Int) == 0) = false := by rw [beq_eq_false_iff_ne]; omega
    have hmul : T * num ≤ 1099511627776 * 1000000 := Nat.mul_le_mul hT (by omega)
    have hq := quant_eq T num den (by omega) (by omega)
    have hr2 : r < 18446744073709551616 := by
      have : (T * num + den - 1) / den ≤ T * num + den - 1 := Nat.div_le_self _ _
      omega
    rw [← hr] at hq
    have e0 : (T : Int) * (num : Int) = ((T * num : Nat) : Int) := by simp
    have s1 : IntKind.u64.wrap ((T : Int) * (num : Int)) = (T : Int) * (num : Int) := u64_in _ (by omega) (by omega)
    have s2 : IntKind.u64.wrap ((T : Int) * (num : Int) + (den : Int)) = (T : Int) * (num : Int) + (den : Int) := u64_in _ (by omega) (by omega)
    have s3 : IntKind.u64.wrap ((T : Int) * (num : Int) + (den : Int) - 1) = (T : Int) * (num : Int) + (den : Int) - 1 := u64_in _ (by omega) (by omega)
    have hd0 : ¬ (den : Int) = 0 := by omega
    have KR := Lib.hid (fun (u : World) (hu : HistAt u p G b l) => Rank_any hu (by have := HO.out.len; omega) r hr2)
    have RG := Lib.hid (rankZ_range ho r)
    have HQ := Lib.hid hq
    have hb4 := ho.bits
    clear h ho hh hr hT1 hmul e0 hT hr2 h4 hq
    go_enter Try.func21, Try.ntmps21
    go_wp2_with fail
    rw [HQ.out]
    refine (KR.out w H.out).mono ?_
    rintro e w1 ⟨rfl, b1⟩
    have B1 := Lib.hid b1
    have d0 := (b1.cell (World.block_lt_of_cell? _ _ c0)).trans c0
    obtain ⟨a, ha⟩ : ∃ a, a = (rankZ l r).1 := ⟨_, rfl⟩
    rw [← ha] at RG E ⊢
    have KB := Bounds_yes (b : Int) a w1 (by omega) (by omega) (by rw [Int.toNat_natCast]; exact RG.out.1) (by rw [Int.toNat_natCast]; exact RG.out.2)
    rw [Int.toNat_natCast] at KB
    have KB' := Lib.hid KB
    clear b1 KB ha s1 s2 s3 c0 c2
    go_wp2_with fail
    refine KB'.out.mono ?_
    rintro e w2 ⟨rfl, b2⟩
    have B2 := Lib.hid (B1.out.trans (b2.mono B1.out.size))
    clear b2
    go_wp2
    go_ret3
    exact ⟨by rw [E.out]; rfl, B2.out⟩

end Go.Proofs.Ytmhljblfbnjopaa.HHist
