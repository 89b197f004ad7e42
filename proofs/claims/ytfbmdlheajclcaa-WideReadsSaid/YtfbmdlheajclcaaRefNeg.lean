/- The document's own Neg. -/
import Derived.Test.YtfbmdlheajclcaaWideRound
namespace Go.Proofs.Ytfbmdlheajclcaa.HWide
open Go.RowKit Go.Proofs.Ytfbmdlheajclcaa.Print Go.Proofs.YtfbmdlheajclcaaW.PrintWords Go.Proofs.YtfbmdlheajclcaaW.PrintLast Go.Proofs.YtfbmdlheajclcaaW.PrintMore

theorem ones_xor (x : Nat) (h : x < 2 ^ 64) : (2 ^ 64 - 1) ^^^ x = 2 ^ 64 - 1 - x := by
  have e : (BitVec.allOnes 64 ^^^ BitVec.ofNat 64 x).toNat = (~~~ BitVec.ofNat 64 x).toNat := by rw [BitVec.allOnes_xor]
  rw [BitVec.toNat_xor, BitVec.toNat_not, BitVec.toNat_allOnes, BitVec.toNat_ofNat, Nat.mod_eq_of_lt h] at e
  exact e
theorem com64 (x : Int) (h0 : 0 ≤ x) (h1 : x ≤ 18446744073709551615) : Go.bits .xor .u64 IntKind.u64.max x = 18446744073709551615 - x := by
  have em : IntKind.u64.max = 18446744073709551615 := by decide
  rw [em, u64_xor _ _ (by decide) (by decide) h0 (by omega)]
  have := ones_xor x.toNat (by omega)
  rw [show (18446744073709551615 : Int).toNat = 2 ^ 64 - 1 from rfl, this]
  omega
theorem addRef_ev (a b c d : Int) (h1 : Rng a b) (h2 : Rng c d) : PrintT.scantlingref02_Sum_Add.f a b c d = some (nrm (val a b + val c d)) := by
  unfold Rng at h1 h2
  unfold PrintT.scantlingref02_Sum_Add.f nrm val B64
  simp only [IntKind.wrap_u64]
  by_cases h : (b + d) % 18446744073709551616 < b
  · rw [if_pos h]
    simp only [Option.some.injEq, Prod.mk.injEq]
    unfold wrap64
    omega
  · rw [if_neg h]
    simp only [Option.some.injEq, Prod.mk.injEq]
    unfold wrap64
    omega
theorem AddRef_any (a b c d : Int) (w : World) (h1 : Rng a b) (h2 : Rng c d) :
    Calls Try.prog 14 #[.agg #[.int .i64 a, .int .u64 b], .agg #[.int .i64 c, .int .u64 d]] w fun e w' => e = .returned (.agg #[.int .i64 (nrm (val a b + val c d)).1, .int .u64 (nrm (val a b + val c d)).2]) ∧ Below w.heap.size w w' :=
  PrintT.scantlingref02_Sum_Add.calls a b c d _ _ w (addRef_ev a b c d h1 h2)
theorem RefNeg_any (a b : Int) (w : World) (hr : Rng a b) :
    Calls Try.prog 16 #[.agg #[.int .i64 a, .int .u64 b]] w fun e w' => e = .returned (.agg #[.int .i64 (nrm (-val a b)).1, .int .u64 (nrm (-val a b)).2]) ∧ Below w.heap.size w w' := by
  have hr' := hr
  unfold Rng at hr'
  have e1 : wrap64 (Go.bits .xor .u64 IntKind.u64.max (IntKind.u64.wrap a)) = -a - 1 := by
    rw [com64 _ (by rw [IntKind.wrap_u64]; omega) (by rw [IntKind.wrap_u64]; omega), IntKind.wrap_u64]
    unfold wrap64; omega
  have e2 := com64 b hr'.2.2.1 hr'.2.2.2
  have hq : Rng (-a - 1) (18446744073709551615 - b) := ⟨by omega, by omega, by omega, by omega⟩
  have hv : val (-a - 1) (18446744073709551615 - b) + val 0 1 = -val a b := by unfold val B64; omega
  have C := fun w => AddRef_any _ _ _ _ w hq (show Rng 0 1 by decide)
  rw [hv] at C
  obtain ⟨hi, hh⟩ : ∃ h, h = (nrm (-val a b)).1 := ⟨_, rfl⟩
  obtain ⟨l, hl⟩ : ∃ l, l = (nrm (-val a b)).2 := ⟨_, rfl⟩
  simp only [← hh, ← hl] at C ⊢
  obtain ⟨x, hx⟩ : ∃ x, x = -a - 1 := ⟨_, rfl⟩
  obtain ⟨y, hy⟩ : ∃ y, y = 18446744073709551615 - b := ⟨_, rfl⟩
  rw [← hx] at e1 C
  rw [← hy] at e2 C
  clear hx hy hh hl hv hq hr hr'
  have HC := Lib.hid C
  clear C
  go_enter Try.func16, Try.ntmps16
  go_wp2_with fail
  try simp only [e1, e2]
  refine (HC.out _).mono ?_
  rintro e w1 ⟨rfl, hb⟩
  have B1 := Lib.hid hb
  have hk := hb.block (w.heap.size + 1) (by simp)
  clear hb HC
  have hk' : w1.heap[w.heap.size + 1]? = some (.cells #[.int .i64 0, .int .u64 0] 26 (0, 0)) := by
    rw [hk, Below.heap_alloc _ _ _ (by simp)]
    have e : w.heap.size + 1 = (w.alloc (Obj.cells #[Value.int IntKind.i64 a, Value.int IntKind.u64 b] 26)).heap.size := by simp
    rw [e]
    show (Array.push _ _)[_]? = _
    rw [Array.getElem?_push_size]
  have c0 : w1.cell? ⟨w.heap.size + 1, 0, none⟩ = some (.int .i64 0) ∧ w1.cell? ⟨w.heap.size + 1, 1, none⟩ = some (.int .u64 0) ∧ w1.frozen? ⟨w.heap.size + 1, 0, none⟩ = false ∧ w1.frozen? ⟨w.heap.size + 1, 1, none⟩ = false := by
    simp [World.cell?, World.frozen?, hk']
  obtain ⟨c0, c1, f0, f1⟩ := c0
  have hk2 : ((w1.setCell ⟨w.heap.size + 1, 0, none⟩ (.int .i64 hi)).setCell ⟨w.heap.size + 1, 1, none⟩ (.int .u64 l)).heap[w.heap.size + 1]? = some (.cells #[.int .i64 hi, .int .u64 l] 26 (0, 0)) := by
    simp only [World.setCell, Array.getElem?_modify, if_true, hk']
    rfl
  have d : ((w1.setCell ⟨w.heap.size + 1, 0, none⟩ (.int .i64 hi)).setCell ⟨w.heap.size + 1, 1, none⟩ (.int .u64 l)).cell? ⟨w.heap.size + 1, 0, none⟩ = some (.int .i64 hi) ∧ ((w1.setCell ⟨w.heap.size + 1, 0, none⟩ (.int .i64 hi)).setCell ⟨w.heap.size + 1, 1, none⟩ (.int .u64 l)).cell? ⟨w.heap.size + 1, 1, none⟩ = some (.int .u64 l) := by
    constructor
    · unfold World.cell?
      rw [hk2]; rfl
    · unfold World.cell?
      rw [hk2]; rfl
  obtain ⟨d0, d1⟩ := d
  obtain ⟨W2, hW2⟩ : ∃ W2, W2 = ((w1.setCell ⟨w.heap.size + 1, 0, none⟩ (.int .i64 hi)).setCell ⟨w.heap.size + 1, 1, none⟩ (.int .u64 l)) := ⟨_, rfl⟩
  clear hk hk' hk2
  go_wp2
  rw [← hW2] at d0 d1 ⊢
  refine bodyPost_ret (by simp [results, Try.results16, go_sem, d0, d1]) rfl ⟨rfl, ?_⟩
  rw [hW2]
  have hs := B1.out.size
  simp at hs
  have h0 : Below w.heap.size w w1 := ((((Below.refl _ _).alloc (Nat.le_refl _) _).alloc (by simp) _).alloc (by simp; omega) _).trans (B1.out.mono (by simp; omega))
  exact (h0.setCell (by simp) _).setCell (by simp) _

end Go.Proofs.Ytfbmdlheajclcaa.HWide
