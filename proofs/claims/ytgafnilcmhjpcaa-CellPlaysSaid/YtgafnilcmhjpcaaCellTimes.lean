/- Cells: times, walked. Conditions: the numbers are of their kinds' ranges. -/
import Derived.Test.YtgafnilcmhjpcaaCellGet
import Derived.Test.YtgafnilcmhjpcaaWdLess
namespace Go.Proofs.Ytgafnilcmhjpcaa.HCell
set_option linter.unusedVariables false
open Go.RowKit Go.Proofs.Ytgafnilcmhjpcaa.HMem Go.Proofs.Ytgafnilcmhjpcaa.HHist Go.Proofs.Ytgafnilcmhjpcaa.HWide
open Go.Proofs.Ytgafnilcmhjpcaa.Print (I64)

/-- A number so many times. -/
def timesC (n : Int) (m : Nat) : Int × Int := nrm (n * m)
theorem times_bound (a : Int) (m : Nat) (ha : 0 ≤ a ∧ a ≤ 9223372036854775808) (hm : m ≤ 1099511627776) : 0 ≤ a * m ∧ a * m ≤ 10141204801825835211973625643008 := by
  refine ⟨Int.mul_nonneg ha.1 (by omega), ?_⟩
  calc a * m ≤ 9223372036854775808 * (m : Int) := Int.mul_le_mul_of_nonneg_right ha.2 (by omega)
    _ ≤ 9223372036854775808 * 1099511627776 := Int.mul_le_mul_of_nonneg_left (by omega) (by decide)
    _ = 10141204801825835211973625643008 := by decide
set_option maxHeartbeats 2000000 in
theorem times_any (n : Int) (m : Nat) (w : World) (hn : I64 n) (hm : m ≤ 1099511627776) :
    Calls Try.prog 89 #[.int .i64 n, .int .u64 m] w fun e w' => e = .returned (.agg #[.int .i64 (timesC n m).1, .int .u64 (timesC n m).2]) ∧ Below w.heap.size w w' := by
  have hn' := hn
  unfold Print.I64 at hn'
  by_cases hneg : n < 0
  · obtain ⟨a, ha⟩ : ∃ a, a = -n := ⟨_, rfl⟩
    have b := times_bound a m (by omega) hm
    have e1 : IntKind.u64.wrap (-(IntKind.u64.wrap n)) = a := by rw [u64w, u64w]; unfold B64; omega
    obtain ⟨z, hz⟩ : ∃ z, z = a * m := ⟨_, rfl⟩
    have K := mul64_any a m
    rw [← hz] at b K
    have hq : 0 ≤ z / B64 ∧ z / B64 < 9223372036854775808 := by unfold B64; omega
    have e2 : IntKind.i64.wrap (z / B64) = z / B64 := by rw [IntKind.wrap_i64]; omega
    have hr : 0 ≤ z % B64 ∧ z % B64 ≤ 18446744073709551615 := by unfold B64; omega
    have KN := fun v => Neg_any (z / B64) (z % B64) v hr.1 hr.2
    have hv : -val (z / B64) (z % B64) = n * m := by
      unfold val B64
      have : z = -(n * m) := by rw [hz, ha, Int.neg_mul]
      omega
    rw [hv] at KN
    have KN' := Lib.hid KN
    have K' := Lib.hid (fun v => K v (by omega) (by omega))
    clear K KN hv hz ha hn
    have RES : timesC n m = nrm (n * m) := rfl
    obtain ⟨S, hS⟩ : ∃ S, S = timesC n m := ⟨_, rfl⟩
    rw [← RES, ← hS] at KN'
    rw [← hS]
    clear RES hS
    go_enter Try.func89, Try.ntmps89
    go_wp2_with fail
    refine (K'.out _).mono ?_
    rintro e w2 ⟨rfl, rfl⟩
    go_wp2_with fail
    refine (KN'.out _).mono ?_
    rintro e w5 ⟨rfl, b5⟩
    obtain ⟨R, hR⟩ : ∃ R, R = w.heap.size := ⟨_, rfl⟩
    have hb := fun k (hk : k < w.heap.size + 1) => b5.block k (by simp; omega)
    have hw5 : w5.heap[R]? = some (.cells #[.int .i64 0, .int .u64 0] 43 (0, 0)) := by
      rw [hb R (by omega), Lib.alloc_old _ _ R (by simp; omega), hR]
      exact heap_alloc_new w _
    have r0 : w5.cell? ⟨R, 0, none⟩ = some (.int .i64 0) := by simp [World.cell?, hw5]
    have r1 : w5.cell? ⟨R, 1, none⟩ = some (.int .u64 0) := by simp [World.cell?, hw5]
    have f0 : w5.frozen? ⟨R, 0, none⟩ = false := by simp [World.frozen?, hw5]
    have f1 : w5.frozen? ⟨R, 1, none⟩ = false := by simp [World.frozen?, hw5]
    have r2 : ((w5.setCell ⟨R, 0, none⟩ (.int .i64 S.1)).setCell ⟨R, 1, none⟩ (.int .u64 S.2)).cell? ⟨R, 0, none⟩ = some (.int .i64 S.1) := by
      have h1 := set_at hw5 0 (.int .i64 S.1)
      have h2 := set_at h1 1 (.int .u64 S.2)
      simp [World.cell?, h2]
    have r3 : ((w5.setCell ⟨R, 0, none⟩ (.int .i64 S.1)).setCell ⟨R, 1, none⟩ (.int .u64 S.2)).cell? ⟨R, 1, none⟩ = some (.int .u64 S.2) := by
      have h1 := set_at hw5 0 (.int .i64 S.1)
      have h2 := set_at h1 1 (.int .u64 S.2)
      simp [World.cell?, h2]
    have BW := Lib.hid (show Below w.heap.size w ((w5.setCell ⟨R, 0, none⟩ (.int .i64 S.1)).setCell ⟨R, 1, none⟩ (.int .u64 S.2)) from
      Below.setCell (Below.setCell (((((Below.refl w.heap.size w).alloc (Nat.le_refl _) _).alloc (by simp) _)).trans (b5.mono (by simp; omega))) (show w.heap.size ≤ (Addr.block ⟨R, 0, none⟩) from Nat.le_of_eq hR.symm) _) (show w.heap.size ≤ (Addr.block ⟨R, 1, none⟩) from Nat.le_of_eq hR.symm) _)
    rw [← hR]
    clear b5 hb hw5 hR
    go_wp2
    refine bodyPost_ret (v := .agg #[.int .i64 S.1, .int .u64 S.2]) (by simp [results, Try.results89, go_sem, r2, r3]) rfl ⟨rfl, BW.out⟩
  · have b := times_bound n m (by omega) hm
    have e1 : IntKind.u64.wrap n = n := by rw [u64w]; unfold B64; omega
    obtain ⟨z, hz⟩ : ∃ z, z = n * m := ⟨_, rfl⟩
    have K := mul64_any n m
    rw [← hz] at b K
    have hq : 0 ≤ z / B64 ∧ z / B64 < 9223372036854775808 := by unfold B64; omega
    have e2 : IntKind.i64.wrap (z / B64) = z / B64 := by rw [IntKind.wrap_i64]; omega
    have K' := Lib.hid (fun v => K v (by omega) (by omega))
    obtain ⟨S, hS⟩ : ∃ S, S = timesC n m := ⟨_, rfl⟩
    have ES := Lib.hid (show S = (z / B64, z % B64) by
      rw [hS]
      unfold timesC nrm
      rw [← hz]
      refine Prod.ext ?_ rfl
      simp only [wrap64]
      omega)
    rw [← hS]
    have h2 : ¬ n < 0 := hneg
    clear K hz hn hS hq b
    go_enter Try.func89, Try.ntmps89
    go_wp2_with fail
    refine (K'.out _).mono ?_
    rintro e w2 ⟨rfl, rfl⟩
    go_wp2
    refine bodyPost_ret (v := .agg #[.int .i64 (z / B64), .int .u64 (z % B64)]) (by simp [results, Try.results89, go_sem]) rfl ⟨by rw [ES.out], ?_⟩
    exact ((Below.refl _ _).alloc (Nat.le_refl _) _).alloc (by simp) _
end Go.Proofs.Ytgafnilcmhjpcaa.HCell
