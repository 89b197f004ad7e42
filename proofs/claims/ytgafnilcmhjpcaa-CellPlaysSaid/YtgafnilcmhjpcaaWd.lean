/- Sums of 128 bits: Add, Neg, Of, walked by hand, with no print's words. Conditions: the numbers are of their kinds' ranges. -/
import Derived.Test.YtgafnilcmhjpcaaProg
import Derived.WalkKit
import Derived.WalkSpells
import Derived.WalkLawsBesides
import Derived.Lib.Hide
import Derived.Laws.Externs
import Derived.Deep.QuietTactic
import Derived.BigQuiet
import Derived.Lib.Tables
import Derived.Laws.BitsAllLaws
import Derived.Deep.CutBlock
import Derived.Below
import Derived.Lib.Strings
namespace Go.Proofs.Ytgafnilcmhjpcaa.HWide
set_option linter.unusedVariables false
open Go.RowKit

/-- The model's entry for math/bits.Sub64. -/
def sub64 : Array Value → Sem Value := fun args => do
  let (x, y, b) ← Extern.MathBitsCarry.three "Sub64" args
  pure (Extern.MathBitsCarry.pair ((x + Extern.MathBitsCarry.m64 - y - b) % Extern.MathBitsCarry.m64) (if x < y + b then 1 else 0))

theorem run_sub64 {P : Program} (x y b : Nat) (hb : b ≤ 1) (w : World) :
    (sub64 #[.int .u64 x, .int .u64 y, .int .u64 b]).run P w =
      .ok (.tuple #[.int .u64 (((x + 18446744073709551616 - y - b) % 18446744073709551616 : Nat) : Int), .int .u64 ((if x < y + b then 1 else 0 : Nat) : Int)]) w := by
  have : b = 0 ∨ b = 1 := by omega
  rcases this with rfl | rfl <;> rfl

def B64 : Int := 18446744073709551616

theorem call_add64 (x y c : Int) (hx : 0 ≤ x) (hy : 0 ≤ y) (hc0 : 0 ≤ c) (hc : c ≤ 1) (w : World) :
    (callFunc 52 #[.int .u64 x, .int .u64 y, .int .u64 c]).run Try.prog w = .ok (.value (.tuple #[.int .u64 ((x + y + c) % B64), .int .u64 ((x + y + c) / B64)])) w := by
  rw [run_callFunc_extern Try.func52 (by kernel_rfl) (by kernel_rfl) (by kernel_rfl) (e := add64Entry) (by kernel_rfl), run_add64 x y c hx hy hc0 hc]
  rfl

theorem call_sub64 (y b : Int) (hy : 0 ≤ y) (hy1 : y ≤ 18446744073709551615) (hb0 : 0 ≤ b) (hb : b ≤ 1) (w : World) :
    (callFunc 84 #[.int .u64 0, .int .u64 y, .int .u64 b]).run Try.prog w = .ok (.value (.tuple #[.int .u64 ((-y - b) % B64), .int .u64 (if y + b = 0 then 0 else 1)])) w := by
  obtain ⟨Y, rfl⟩ := Int.eq_ofNat_of_zero_le hy
  obtain ⟨c, rfl⟩ := Int.eq_ofNat_of_zero_le hb0
  rw [run_callFunc_extern Try.func84 (by kernel_rfl) (by kernel_rfl) (by kernel_rfl) (e := sub64) (by kernel_rfl)]
  have h := run_sub64 (P := Try.prog) 0 Y c (by omega) w
  have h0 : (sub64 #[.int .u64 0, .int .u64 (Y : Int), .int .u64 (c : Int)]).run Try.prog w = (sub64 #[.int .u64 ((0 : Nat) : Int), .int .u64 (Y : Int), .int .u64 (c : Int)]).run Try.prog w := rfl
  rw [h0, h]
  have e1 : (((0 + 18446744073709551616 - Y - c) % 18446744073709551616 : Nat) : Int) = (-(Y : Int) - (c : Int)) % B64 := by unfold B64; omega
  have e2 : ((if 0 < Y + c then 1 else 0 : Nat) : Int) = if (Y : Int) + (c : Int) = 0 then 0 else 1 := by
    by_cases h : 0 < Y + c
    · rw [if_pos h, if_neg (by omega)]; rfl
    · rw [if_neg h, if_pos (by omega)]; rfl
  rw [e1, e2]
  rfl

/-- A number of 128 bits: its value; a value as a number, going round. -/
def val (h l : Int) : Int := h * B64 + l
def nrm (v : Int) : Int × Int := (wrap64 (v / B64), v % B64)
/-- In range. -/
def Rng (h l : Int) : Prop := -9223372036854775808 ≤ h ∧ h ≤ 9223372036854775807 ∧ 0 ≤ l ∧ l ≤ 18446744073709551615
instance (h l : Int) : Decidable (Rng h l) := inferInstanceAs (Decidable (_ ∧ _))

theorem u64w (n : Int) : IntKind.u64.wrap n = n % B64 := by
  simp only [IntKind.wrap, IntKind.signed, IntKind.bits, Bool.false_and, Bool.false_eq_true, if_false]
  rfl

theorem nrm_add (a b c d : Int) : nrm (val a b + val c d) = (wrap64 ((IntKind.u64.wrap a + IntKind.u64.wrap c + (b + d) / B64) % B64), (b + d) % B64) := by
  rw [u64w, u64w]
  unfold nrm val wrap64 B64
  refine Prod.ext ?_ ?_ <;> simp only <;> omega

theorem nrm_neg (a b : Int) (h0 : 0 ≤ b) (h1 : b ≤ 18446744073709551615) : nrm (-val a b) = (wrap64 ((-IntKind.u64.wrap a - (if b + 0 = 0 then 0 else 1)) % B64), (-b - 0) % B64) := by
  rw [u64w]
  unfold nrm val wrap64 B64
  by_cases h : b = 0
  · subst h
    refine Prod.ext ?_ ?_ <;> simp only [Int.add_zero, if_true] <;> omega
  · rw [if_neg (by omega)]
    refine Prod.ext ?_ ?_ <;> simp only <;> omega

set_option maxHeartbeats 1000000 in
theorem Add_any (a b c d : Int) (w : World) (hb : 0 ≤ b) (hb1 : b ≤ 18446744073709551615) (hd : 0 ≤ d) (hd1 : d ≤ 18446744073709551615) :
    Calls Try.prog 20 #[.agg #[.int .i64 a, .int .u64 b], .agg #[.int .i64 c, .int .u64 d]] w fun e w' =>
      e = .returned (.agg #[.int .i64 (nrm (val a b + val c d)).1, .int .u64 (nrm (val a b + val c d)).2]) ∧ Below w.heap.size w w' := by
  have N := Lib.hid (nrm_add a b c d)
  have c1 := fun W => call_add64 b d 0 hb hd (by omega) (by omega) W
  have hcar : 0 ≤ (b + d) / B64 ∧ (b + d) / B64 ≤ 1 := by unfold B64; omega
  have c2 := fun W => call_add64 (IntKind.u64.wrap a) (IntKind.u64.wrap c) ((b + d) / B64) (by rw [u64w]; unfold B64; omega) (by rw [u64w]; unfold B64; omega) hcar.1 hcar.2 W
  rw [Int.add_zero] at c1
  clear hcar hb hb1 hd hd1
  go_enter Try.func20, Try.ntmps20
  go_wp2
  refine bodyPost_ret (v := .agg #[.int .i64 (wrap64 ((IntKind.u64.wrap a + IntKind.u64.wrap c + (b + d) / B64) % B64)), .int .u64 ((b + d) % B64)]) (by simp [results, Try.results20, go_sem]) rfl ⟨by rw [N.out], ?_⟩
  exact ((((Below.refl _ w).alloc (Nat.le_refl _) _).alloc (by simp) _).alloc (by simp; omega) _)

set_option maxHeartbeats 1000000 in
theorem Neg_any (a b : Int) (w : World) (hb : 0 ≤ b) (hb1 : b ≤ 18446744073709551615) :
    Calls Try.prog 63 #[.agg #[.int .i64 a, .int .u64 b]] w fun e w' =>
      e = .returned (.agg #[.int .i64 (nrm (-val a b)).1, .int .u64 (nrm (-val a b)).2]) ∧ Below w.heap.size w w' := by
  have N := Lib.hid (nrm_neg a b hb hb1)
  have c1 := fun W => call_sub64 b 0 hb hb1 (by omega) (by omega) W
  obtain ⟨c, hc⟩ : ∃ c : Int, c = if b + 0 = 0 then 0 else 1 := ⟨_, rfl⟩
  have hcar : 0 ≤ c ∧ c ≤ 1 := by rw [hc]; split <;> omega
  have c2 := fun W => call_sub64 (IntKind.u64.wrap a) c (by rw [u64w]; unfold B64; omega) (by rw [u64w]; unfold B64; omega) hcar.1 hcar.2 W
  rw [← hc] at c1 N
  rw [Int.sub_zero] at c1 N
  clear hcar hb hb1 hc
  go_enter Try.func63, Try.ntmps63
  go_wp2
  all_goals
    refine bodyPost_ret (v := .agg #[.int .i64 (wrap64 ((-IntKind.u64.wrap a - c) % B64)), .int .u64 (-b % B64)]) (by simp [results, Try.results63, go_sem]) rfl ⟨by rw [N.out], ?_⟩
    exact (((Below.refl _ w).alloc (Nat.le_refl _) _).alloc (by simp) _)
def two (w : World) (b : Nat) (x : Int × Int) : Prop := w.heap[b]? = some (.cells #[.int .i64 x.1, .int .u64 x.2] 43 (0, 0))

theorem two.c {w : World} {b : Nat} {x : Int × Int} (h : two w b x) : w.cell? ⟨b, 0, none⟩ = some (.int .i64 x.1) ∧ w.cell? ⟨b, 1, none⟩ = some (.int .u64 x.2) ∧ w.frozen? ⟨b, 0, none⟩ = false ∧ w.frozen? ⟨b, 1, none⟩ = false := by
  unfold two at h
  simp [World.cell?, World.frozen?, h]
theorem two.mono {w w' : World} {b : Nat} {x : Int × Int} (h : two w b x) (hb : Below w.heap.size w w') : two w' b x := by
  unfold two at *
  have hl : b < w.heap.size := by
    rcases Nat.lt_or_ge b w.heap.size with h' | h'
    · exact h'
    · simp [Array.getElem?_eq_none h'] at h
  rw [hb.block b hl]; exact h
theorem blk_le {w : World} {b : Nat} {x : Int × Int} (h : two w b x) : b ≤ w.heap.size := by
  unfold two at h
  rcases Nat.lt_or_ge b w.heap.size with h' | h'
  · omega
  · simp [Array.getElem?_eq_none h'] at h
theorem two.set {w : World} {b : Nat} {x : Int × Int} (h : two w b x) (y : Int × Int) : two ((w.setCell ⟨b, 0, none⟩ (.int .i64 y.1)).setCell ⟨b, 1, none⟩ (.int .u64 y.2)) b y := by
  unfold two at *
  have e1 : (w.setCell ⟨b, 0, none⟩ (.int .i64 y.1)).heap[b]? = some (.cells #[.int .i64 y.1, .int .u64 x.2] 43 (0, 0)) := by
    simp only [World.setCell, Array.getElem?_modify, if_true, h]
    rfl
  simp only [World.setCell, Array.getElem?_modify, if_true] at e1 ⊢
  rw [e1]
  rfl

theorem two.other {w : World} {b c i : Nat} {x : Int × Int} {v : Value} (h : two w b x) (hn : c ≠ b) : two (w.setCell ⟨c, i, none⟩ v) b x := by
  unfold two at *
  simp only [World.setCell, Array.getElem?_modify, if_neg hn, h]

theorem two_set {w : World} {b : Nat} {x y : Value} (h0 : w.cell? ⟨b, 0, none⟩ = some x) (h1 : w.cell? ⟨b, 1, none⟩ = some y) (u v : Value) :
    ((w.setCell ⟨b, 0, none⟩ u).setCell ⟨b, 1, none⟩ v).cell? ⟨b, 0, none⟩ = some u ∧ ((w.setCell ⟨b, 0, none⟩ u).setCell ⟨b, 1, none⟩ v).cell? ⟨b, 1, none⟩ = some v := by
  have e : (w.setCell ⟨b, 0, none⟩ u).cell? ⟨b, 1, none⟩ = some y := by rw [World.cell?_setCell_other w _ _ _ (by simp)]; exact h1
  refine ⟨?_, World.cell?_setCell_same _ _ _ e⟩
  rw [World.cell?_setCell_other _ _ _ _ (by simp)]
  exact World.cell?_setCell_same _ _ _ h0

/-- The two cells of a block that was made last but a call: they are there still. -/
theorem two_cells (w : World) (o : Obj) (x y : Value) (t : TypeId) (w2 : World) (hb : Below ((w.alloc o).alloc (.cells #[x, y] t)).heap.size ((w.alloc o).alloc (.cells #[x, y] t)) w2) :
    w2.cell? ⟨w.heap.size + 1, 0, none⟩ = some x ∧ w2.cell? ⟨w.heap.size + 1, 1, none⟩ = some y ∧ w2.frozen? ⟨w.heap.size + 1, 0, none⟩ = false ∧ w2.frozen? ⟨w.heap.size + 1, 1, none⟩ = false := by
  have hs : (w.alloc o).heap.size = w.heap.size + 1 := by simp
  have hl : w.heap.size + 1 < ((w.alloc o).alloc (.cells #[x, y] t)).heap.size := by simp
  refine ⟨?_, ?_, ?_, ?_⟩
  · rw [hb.cell hl, ← hs, World.cell?_alloc_new]; rfl
  · rw [hb.cell hl, ← hs, World.cell?_alloc_new]; rfl
  · rw [hb.frozen hl, ← hs, World.frozen?_alloc_new]
  · rw [hb.frozen hl, ← hs, World.frozen?_alloc_new]


theorem nrm_rng (v : Int) : Rng (nrm v).1 (nrm v).2 := by unfold nrm Rng wrap64 B64; simp only; omega
/-- A text's bytes as numbers. -/
def bytesOf (s : ByteArray) : List Int := s.data.toList.map fun c => (c.toNat : Int)
theorem bytesOf_length (s : ByteArray) : (bytesOf s).length = s.size := by rw [bytesOf, List.length_map, Array.length_toList]; rfl
theorem drop_byte (s : ByteArray) (k : Nat) (h : k < s.size) : (bytesOf s).drop k = (s[k].toNat : Int) :: (bytesOf s).drop (k + 1) := by
  have h' : k < (bytesOf s).length := by rw [bytesOf_length]; exact h
  rw [List.drop_eq_getElem_cons h']
  congr 1
  simp [bytesOf]
  rfl
theorem Of_any (n : Int) (w : World) (h : -9223372036854775808 ≤ n ∧ n ≤ 9223372036854775807) :
    Calls Try.prog 21 #[.int .i64 n] w fun e w' => e = .returned (.agg #[.int .i64 (nrm n).1, .int .u64 (nrm n).2]) ∧ Below w.heap.size w w' := by
  have E := Lib.hid (show (n / 9223372036854775808, IntKind.u64.wrap n) = nrm n by
    rw [u64w]
    unfold nrm
    refine Prod.ext ?_ rfl
    simp only [wrap64, B64]
    omega)
  go_enter Try.func21, Try.ntmps21
  go_wp2
  refine bodyPost_ret (v := .agg #[.int .i64 (n / 9223372036854775808), .int .u64 (IntKind.u64.wrap n)]) (by simp [results, Try.results21, go_sem]) rfl ⟨by rw [← E.out], ?_⟩
  exact (Below.refl _ w).alloc (Nat.le_refl _) _
end Go.Proofs.Ytgafnilcmhjpcaa.HWide
