/- Contracts of the package wide (sums of 128 bits), walked by hand: Add, Neg, times. Where the numbers are of their kinds' ranges. -/
import Derived.Test.YtfbmdlheajclcaaProg
import Derived.WalkKit
import Derived.WalkSpells
import Derived.WalkLawsBesides
import Derived.Lib.Hide
import Derived.Laws.Externs
import Derived.Deep.QuietTactic
import Derived.BigQuiet
import Derived.Lib.Tables
import Derived.Laws.BitsAllLaws
import Derived.Deep.CutBlock
import Derived.Test.YtfbmdlheajclcaaWWords
namespace Go.Proofs.Ytfbmdlheajclcaa.HWide
open Go.RowKit

/-- The model's entry for math/bits.Sub64. -/
def sub64 : Array Value → Sem Value := fun args => do
  let (x, y, b) ← Extern.MathBitsCarry.three "Sub64" args
  pure (Extern.MathBitsCarry.pair ((x + Extern.MathBitsCarry.m64 - y - b) % Extern.MathBitsCarry.m64) (if x < y + b then 1 else 0))

theorem run_sub64 {P : Program} (x y b : Nat) (hb : b ≤ 1) (w : World) :
    (sub64 #[.int .u64 x, .int .u64 y, .int .u64 b]).run P w =
      .ok (.tuple #[.int .u64 (((x + 18446744073709551616 - y - b) % 18446744073709551616 : Nat) : Int), .int .u64 ((if x < y + b then 1 else 0 : Nat) : Int)]) w := by
  have : b = 0 ∨ b = 1 := by omega
  rcases this with rfl | rfl <;> rfl

def B64 : Int := 18446744073709551616

theorem call_add64 (x y c : Int) (hx : 0 ≤ x) (hy : 0 ≤ y) (hc0 : 0 ≤ c) (hc : c ≤ 1) (w : World) :
    (callFunc 32 #[.int .u64 x, .int .u64 y, .int .u64 c]).run Try.prog w = .ok (.value (.tuple #[.int .u64 ((x + y + c) % B64), .int .u64 ((x + y + c) / B64)])) w := by
  rw [run_callFunc_extern Try.func32 (by kernel_rfl) (by kernel_rfl) (by kernel_rfl) (e := add64Entry) (by kernel_rfl), run_add64 x y c hx hy hc0 hc]
  rfl

theorem call_sub64 (y b : Int) (hy : 0 ≤ y) (hy1 : y ≤ 18446744073709551615) (hb0 : 0 ≤ b) (hb : b ≤ 1) (w : World) :
    (callFunc 33 #[.int .u64 0, .int .u64 y, .int .u64 b]).run Try.prog w = .ok (.value (.tuple #[.int .u64 ((-y - b) % B64), .int .u64 (if y + b = 0 then 0 else 1)])) w := by
  obtain ⟨Y, rfl⟩ := Int.eq_ofNat_of_zero_le hy
  obtain ⟨c, rfl⟩ := Int.eq_ofNat_of_zero_le hb0
  rw [run_callFunc_extern Try.func33 (by kernel_rfl) (by kernel_rfl) (by kernel_rfl) (e := sub64) (by kernel_rfl)]
  have h := run_sub64 (P := Try.prog) 0 Y c (by omega) w
  have h0 : (sub64 #[.int .u64 0, .int .u64 (Y : Int), .int .u64 (c : Int)]).run Try.prog w = (sub64 #[.int .u64 ((0 : Nat) : Int), .int .u64 (Y : Int), .int .u64 (c : Int)]).run Try.prog w := rfl
  rw [h0, h]
  have e1 : (((0 + 18446744073709551616 - Y - c) % 18446744073709551616 : Nat) : Int) = (-(Y : Int) - (c : Int)) % B64 := by unfold B64; omega
  have e2 : ((if 0 < Y + c then 1 else 0 : Nat) : Int) = if (Y : Int) + (c : Int) = 0 then 0 else 1 := by
    by_cases h : 0 < Y + c
    · rw [if_pos h, if_neg (by omega)]; rfl
    · rw [if_neg h, if_pos (by omega)]; rfl
  rw [e1, e2]
  rfl

/-- A number of 128 bits: its value; a value as a number, going round. -/
def val (h l : Int) : Int := h * B64 + l
def nrm (v : Int) : Int × Int := (wrap64 (v / B64), v % B64)
/-- In range. -/
def Rng (h l : Int) : Prop := -9223372036854775808 ≤ h ∧ h ≤ 9223372036854775807 ∧ 0 ≤ l ∧ l ≤ 18446744073709551615
instance (h l : Int) : Decidable (Rng h l) := inferInstanceAs (Decidable (_ ∧ _))

theorem u64w (n : Int) : IntKind.u64.wrap n = n % B64 := by
  simp only [IntKind.wrap, IntKind.signed, IntKind.bits, Bool.false_and, Bool.false_eq_true, if_false]
  rfl

theorem nrm_add (a b c d : Int) : nrm (val a b + val c d) = (wrap64 ((IntKind.u64.wrap a + IntKind.u64.wrap c + (b + d) / B64) % B64), (b + d) % B64) := by
  rw [u64w, u64w]
  unfold nrm val wrap64 B64
  refine Prod.ext ?_ ?_ <;> simp only <;> omega

theorem nrm_neg (a b : Int) (h0 : 0 ≤ b) (h1 : b ≤ 18446744073709551615) : nrm (-val a b) = (wrap64 ((-IntKind.u64.wrap a - (if b + 0 = 0 then 0 else 1)) % B64), (-b - 0) % B64) := by
  rw [u64w]
  unfold nrm val wrap64 B64
  by_cases h : b = 0
  · subst h
    refine Prod.ext ?_ ?_ <;> simp only [Int.add_zero, if_true] <;> omega
  · rw [if_neg (by omega)]
    refine Prod.ext ?_ ?_ <;> simp only <;> omega

set_option maxHeartbeats 1000000 in
theorem Add_any (a b c d : Int) (w : World) (hb : 0 ≤ b) (hb1 : b ≤ 18446744073709551615) (hd : 0 ≤ d) (hd1 : d ≤ 18446744073709551615) :
    Calls Try.prog 13 #[.agg #[.int .i64 a, .int .u64 b], .agg #[.int .i64 c, .int .u64 d]] w fun e w' =>
      e = .returned (.agg #[.int .i64 (nrm (val a b + val c d)).1, .int .u64 (nrm (val a b + val c d)).2]) ∧ Below w.heap.size w w' := by
  have N := Lib.hid (nrm_add a b c d)
  have c1 := fun W => call_add64 b d 0 hb hd (by omega) (by omega) W
  have hcar : 0 ≤ (b + d) / B64 ∧ (b + d) / B64 ≤ 1 := by unfold B64; omega
  have c2 := fun W => call_add64 (IntKind.u64.wrap a) (IntKind.u64.wrap c) ((b + d) / B64) (by rw [u64w]; unfold B64; omega) (by rw [u64w]; unfold B64; omega) hcar.1 hcar.2 W
  rw [Int.add_zero] at c1
  clear hcar hb hb1 hd hd1
  go_enter Try.func13, Try.ntmps13
  go_wp2
  refine bodyPost_ret (v := .agg #[.int .i64 (wrap64 ((IntKind.u64.wrap a + IntKind.u64.wrap c + (b + d) / B64) % B64)), .int .u64 ((b + d) % B64)]) (by simp [results, Try.results13, go_sem]) rfl ⟨by rw [N.out], ?_⟩
  exact ((((Below.refl _ w).alloc (Nat.le_refl _) _).alloc (by simp) _).alloc (by simp; omega) _)

set_option maxHeartbeats 1000000 in
theorem Neg_any (a b : Int) (w : World) (hb : 0 ≤ b) (hb1 : b ≤ 18446744073709551615) :
    Calls Try.prog 15 #[.agg #[.int .i64 a, .int .u64 b]] w fun e w' =>
      e = .returned (.agg #[.int .i64 (nrm (-val a b)).1, .int .u64 (nrm (-val a b)).2]) ∧ Below w.heap.size w w' := by
  have N := Lib.hid (nrm_neg a b hb hb1)
  have c1 := fun W => call_sub64 b 0 hb hb1 (by omega) (by omega) W
  obtain ⟨c, hc⟩ : ∃ c : Int, c = if b + 0 = 0 then 0 else 1 := ⟨_, rfl⟩
  have hcar : 0 ≤ c ∧ c ≤ 1 := by rw [hc]; split <;> omega
  have c2 := fun W => call_sub64 (IntKind.u64.wrap a) c (by rw [u64w]; unfold B64; omega) (by rw [u64w]; unfold B64; omega) hcar.1 hcar.2 W
  rw [← hc] at c1 N
  rw [Int.sub_zero] at c1 N
  clear hcar hb hb1 hc
  go_enter Try.func15, Try.ntmps15
  go_wp2
  all_goals
    refine bodyPost_ret (v := .agg #[.int .i64 (wrap64 ((-IntKind.u64.wrap a - c) % B64)), .int .u64 (-b % B64)]) (by simp [results, Try.results15, go_sem]) rfl ⟨by rw [N.out], ?_⟩
    exact (((Below.refl _ w).alloc (Nat.le_refl _) _).alloc (by simp) _)

theorem len10 (w : World) : Calls Try.prog 46 #[.int .u64 10] w fun e w' => e = .returned (.int .i64 4) ∧ w' = w := by
  go_enter Try.func46, Try.ntmps46
  go_wp2
  go_ret
  exact ⟨congrArg Ending.returned (congrArg (Value.int IntKind.i64) (by decide +kernel)), rfl⟩

theorem lz10 (w : World) : Calls Try.prog 42 #[.int .u64 10] w fun e w' => e = .returned (.int .i64 60) ∧ w' = w := by
  go_enter Try.func42, Try.ntmps42
  go_wp2_with (go_at_call 46; refine (len10 _).mono ?_; rintro e w' ⟨rfl, rfl⟩)
  go_ret
  exact ⟨rfl, rfl⟩

theorem or_add (h x : Int) (h0 : 0 ≤ h) (h1 : h ≤ 9) (x0 : 0 ≤ x) (x1 : x < 1152921504606846976) : Go.bits .or .u64 (h * 1152921504606846976) x = h * 1152921504606846976 + x := by
  obtain ⟨H, rfl⟩ := Int.eq_ofNat_of_zero_le h0
  obtain ⟨X, rfl⟩ := Int.eq_ofNat_of_zero_le x0
  have e : ((H : Int) * 1152921504606846976) = ((H * 1152921504606846976 : Nat) : Int) := by omega
  rw [e, u64_or_nat _ _ (by omega) (by omega)]
  have := Nat.two_pow_add_eq_or_of_lt (i := 60) (b := X) (by omega) H
  rw [show (2 : Nat) ^ 60 = 1152921504606846976 from rfl, Nat.mul_comm] at this
  rw [← this]
  omega

theorem and_zero_all : ((List.range 16).all fun k => Go.bits .and .u64 ((k : Int) * 1152921504606846976) 4294967295 == 0) = true := by decide +kernel
theorem and_zero (k : Int) (h0 : 0 ≤ k) (h1 : k < 16) : Go.bits .and .u64 (k * 1152921504606846976) 4294967295 = 0 := by
  obtain ⟨n, rfl⟩ := Int.eq_ofNat_of_zero_le h0
  exact beq_iff_eq.1 (List.all_eq_true.1 and_zero_all n (List.mem_range.2 (by omega)))

set_option maxHeartbeats 1000000 in
theorem div10_zero (l : Int) (w : World) (h0 : 0 ≤ l) (h1 : l ≤ 18446744073709551615) :
    Calls Try.prog 35 #[.int .u64 0, .int .u64 l, .int .u64 10] w fun e w' => e = .returned (.tuple #[.int .u64 (l / 10), .int .u64 (l % 10)]) ∧ ∃ n, w' = w.drewN n := by
  go_enter Try.func35, Try.ntmps35
  go_wp2
  repeat (go_quiet (fail); try go_wp2)
  go_ret2
  exact ⟨rfl, _, rfl⟩

theorem div10_fin (h l U V Q R T Q2 R2 : Int) (_h0 : 0 ≤ l) (_r0 : 0 ≤ R) (hU : U = h * 1152921504606846976 + l / 16) (hR : U - Q * 2684354560 = R) (hV : V / 4294967296 = (l % 16) * 268435456)
    (hT : T = R * 4294967296 + V / 4294967296) (hQ2 : T / 2684354560 = Q2) (hR2 : T - Q2 * 2684354560 = R2) :
    Q * 4294967296 + Q2 = val h l / 10 ∧ IntKind.u64.wrap (IntKind.u64.wrap (IntKind.u64.wrap (T * 4294967296)) - IntKind.u64.wrap (Q2 * 11529215046068469760)) / 1152921504606846976 = val h l % 10 := by
  obtain ⟨S, hS⟩ : ∃ S, S = 16 * R + l % 16 := ⟨_, rfl⟩
  have e1 : T = S * 268435456 := by omega
  have e2 : Q2 = S / 10 := by omega
  have e3 : val h l = 10 * (Q * 4294967296) + S := by unfold val B64; omega
  have e4 : R2 = (S % 10) * 268435456 := by omega
  have e5 : IntKind.u64.wrap (IntKind.u64.wrap (IntKind.u64.wrap (T * 4294967296)) - IntKind.u64.wrap (Q2 * 11529215046068469760)) = R2 * 4294967296 := by
    rw [u64w, u64w, u64w, u64w]; unfold B64
    clear e3 hU hR hV hT hQ2 hS
    omega
  rw [e5, e3, e4]
  clear e5 e3 hU hR hV hT hR2 e1
  omega

theorem ret2_eq {a b c d : Int} {k j : IntKind} (h1 : a = c) (h2 : b = d) : Ending.returned (.tuple #[.int k a, .int j b]) = .returned (.tuple #[.int k c, .int j d]) := by rw [h1, h2]

set_option maxHeartbeats 1000000 in
theorem div10_more (h l : Int) (w : World) (h0 : 0 ≤ l) (h1 : l ≤ 18446744073709551615) (g0 : 1 ≤ h) (g1 : h ≤ 9) :
    Calls Try.prog 35 #[.int .u64 h, .int .u64 l, .int .u64 10] w fun e w' => e = .returned (.tuple #[.int .u64 (val h l / 10), .int .u64 (val h l % 10)]) ∧ ∃ n, w' = w.drewN n := by
  have t1 : (h == 0) = false := by rw [beq_eq_false_iff_ne]; omega
  have t2 : decide (10 ≤ h) = false := by simp; omega
  obtain ⟨U, hU⟩ : ∃ U, U = h * 1152921504606846976 + l / 16 := ⟨_, rfl⟩
  have A1 : Go.bits .or .u64 (h * 1152921504606846976) (l / 16) = U := by rw [hU]; exact or_add h (l / 16) (by omega) (by omega) (by omega) (by omega)
  have A2 : Go.bits .and .u64 11529215046068469760 4294967295 = 0 := by decide +kernel
  obtain ⟨V, hV⟩ : ∃ V, V = (l % 16) * 1152921504606846976 := ⟨_, rfl⟩
  have A3 : IntKind.u64.wrap (l * 1152921504606846976) = V := by rw [u64w, hV]; unfold B64; omega
  have A4 : Go.bits .and .u64 V 4294967295 = 0 := by rw [hV]; exact and_zero (l % 16) (by omega) (by omega)
  have u0 : 0 ≤ U := by omega
  have u1 : U ≤ 11529215046068469759 := by omega
  have v0 : 0 ≤ V := by omega
  have v1 : V ≤ 18446744073709551615 := by omega
  have HU := Lib.hid hU
  have HV := Lib.hid hV
  clear hU hV
  go_enter Try.func35, Try.ntmps35
  go_wp2_with (go_at_call 42; refine (lz10 _).mono ?_; rintro e w' ⟨rfl, rfl⟩)
  have q0 : 0 ≤ U / 2684354560 ∧ U / 2684354560 ≤ 4294967295 := by omega
  have r0 : 0 ≤ U - U / 2684354560 * 2684354560 ∧ U - U / 2684354560 * 2684354560 ≤ 2684354559 := by omega
  generalize hq : U / 2684354560 = Q at *
  generalize hr : U - Q * 2684354560 = R at *
  have HQ := Lib.hid hq
  have HR := Lib.hid hr
  clear hq hr
  obtain ⟨q0, q1⟩ := q0
  obtain ⟨r0, r1⟩ := r0
  have k1 : decide (4294967296 ≤ Q) = false := by simp; omega
  obtain ⟨T, hT⟩ : ∃ T, T = R * 4294967296 + V / 4294967296 := ⟨_, rfl⟩
  have hV4 : V / 4294967296 = (l % 16) * 268435456 := by have := HV.out; omega
  have D1 : IntKind.u64.wrap (IntKind.u64.wrap (IntKind.u64.wrap (U * 4294967296) + V / 4294967296) - IntKind.u64.wrap (Q * 11529215046068469760)) = T := by
    have hr := HR.out
    rw [u64w, u64w, u64w, u64w, hT]; unfold B64; omega
  have t0 : 0 ≤ T := by omega
  have t9 : T ≤ 11529215046068469759 := by omega
  have HTT := Lib.hid hT
  have HV4 := Lib.hid hV4
  clear hT hV4
  refine wp_loop_rounds 1 ?_
  rw [rounds_succ]
  go_wp2
  have q2 : 0 ≤ T / 2684354560 ∧ T / 2684354560 ≤ 4294967295 := by omega
  have r2 : 0 ≤ T - T / 2684354560 * 2684354560 ∧ T - T / 2684354560 * 2684354560 ≤ 2684354559 := by omega
  generalize hq : T / 2684354560 = Q2 at *
  generalize hr : T - Q2 * 2684354560 = R2 at *
  have HQ2 := Lib.hid hq
  have HR2 := Lib.hid hr
  obtain ⟨q20, q21⟩ := q2
  obtain ⟨r20, r21⟩ := r2
  have k2 : decide (4294967296 ≤ Q2) = false := by simp; omega
  clear hq hr
  refine wp_loop_rounds 1 ?_
  rw [rounds_succ]
  go_wp2
  go_ret2
  have F := div10_fin h l U V Q R T Q2 R2 (by omega) (by omega) HU.out HR.out HV4.out HTT.out HQ2.out HR2.out
  refine ⟨ret2_eq F.1 F.2, ?_⟩
  first
    | exact ⟨0, rfl⟩
    | exact ⟨_, rfl⟩

theorem div10_any (h l : Int) (w : World) (h0 : 0 ≤ l) (h1 : l ≤ 18446744073709551615) (g0 : 0 ≤ h) (g1 : h ≤ 9) :
    Calls Try.prog 35 #[.int .u64 h, .int .u64 l, .int .u64 10] w fun e w' => e = .returned (.tuple #[.int .u64 (val h l / 10), .int .u64 (val h l % 10)]) ∧ ∃ n, w' = w.drewN n := by
  by_cases hh : h = 0
  · subst hh
    have e : val 0 l = l := by unfold val; omega
    rw [e]
    exact div10_zero l w h0 h1
  · exact div10_more h l w h0 h1 (by omega) g1

theorem and32 (x : Int) (h0 : 0 ≤ x) (h1 : x ≤ 18446744073709551615) : Go.bits .and .u64 x 4294967295 = x % 4294967296 := by
  obtain ⟨n, rfl⟩ := Int.eq_ofNat_of_zero_le h0
  have := u64_and_nat n 4294967295 (by omega) (by omega)
  rw [show ((4294967295 : Nat) : Int) = 4294967295 from rfl] at this
  rw [this, show (4294967295 : Nat) = 2 ^ 32 - 1 from rfl, Nat.and_two_pow_sub_one_eq_mod]
  rfl

set_option maxHeartbeats 1000000 in
theorem mul10 (x : Int) (w : World) (h0 : 0 ≤ x) (h1 : x ≤ 18446744073709551615) :
    Calls Try.prog 43 #[.int .u64 x, .int .u64 10] w fun e w' => e = .returned (.tuple #[.int .u64 (x * 10 / B64), .int .u64 (x * 10 % B64)]) ∧ w' = w := by
  have a1 := and32 x h0 h1
  have a2 : Go.bits .and .u64 10 4294967295 = 10 := by decide +kernel
  have a3 := and32 (x / 4294967296 * 10 + x % 4294967296 * 10 / 4294967296) (by omega) (by omega)
  go_enter Try.func43, Try.ntmps43
  go_wp2
  go_ret2
  refine ⟨ret2_eq ?_ ?_, rfl⟩
  · unfold B64; omega
  · rw [u64w]

theorem nrm_times (a b d : Int) (_h0 : 0 ≤ b) (_h1 : b ≤ 18446744073709551615) :
    nrm (val (wrap64 (wrap64 (a * 10) + b * 10 / B64)) (b * 10 % B64) + val 0 d) = nrm (10 * val a b + d) := by
  obtain ⟨q, hq⟩ : ∃ q, q = b * 10 / B64 := ⟨_, rfl⟩
  obtain ⟨r, hr⟩ : ∃ r, r = b * 10 % B64 := ⟨_, rfl⟩
  have hb : b * 10 = q * B64 + r := by rw [hq, hr]; unfold B64; omega
  rw [← hq, ← hr]
  clear hq hr
  unfold val
  have ev : 10 * (a * B64 + b) + d = (10 * a + q) * B64 + (r + d) := by unfold B64 at *; omega
  rw [ev]
  unfold nrm wrap64 B64
  refine Prod.ext ?_ ?_ <;> simp only <;> omega

theorem two_set {w : World} {b : Nat} {x y : Value} (h0 : w.cell? ⟨b, 0, none⟩ = some x) (h1 : w.cell? ⟨b, 1, none⟩ = some y) (u v : Value) :
    ((w.setCell ⟨b, 0, none⟩ u).setCell ⟨b, 1, none⟩ v).cell? ⟨b, 0, none⟩ = some u ∧ ((w.setCell ⟨b, 0, none⟩ u).setCell ⟨b, 1, none⟩ v).cell? ⟨b, 1, none⟩ = some v := by
  have e : (w.setCell ⟨b, 0, none⟩ u).cell? ⟨b, 1, none⟩ = some y := by rw [World.cell?_setCell_other w _ _ _ (by simp)]; exact h1
  refine ⟨?_, World.cell?_setCell_same _ _ _ e⟩
  rw [World.cell?_setCell_other _ _ _ _ (by simp)]
  exact World.cell?_setCell_same _ _ _ h0

/-- The two cells of a block that was made last but a call: they are there still. -/
theorem two_cells (w : World) (o : Obj) (x y : Value) (t : TypeId) (w2 : World) (hb : Below ((w.alloc o).alloc (.cells #[x, y] t)).heap.size ((w.alloc o).alloc (.cells #[x, y] t)) w2) :
    w2.cell? ⟨w.heap.size + 1, 0, none⟩ = some x ∧ w2.cell? ⟨w.heap.size + 1, 1, none⟩ = some y ∧ w2.frozen? ⟨w.heap.size + 1, 0, none⟩ = false ∧ w2.frozen? ⟨w.heap.size + 1, 1, none⟩ = false := by
  have hs : (w.alloc o).heap.size = w.heap.size + 1 := by simp
  have hl : w.heap.size + 1 < ((w.alloc o).alloc (.cells #[x, y] t)).heap.size := by simp
  refine ⟨?_, ?_, ?_, ?_⟩
  · rw [hb.cell hl, ← hs, World.cell?_alloc_new]; rfl
  · rw [hb.cell hl, ← hs, World.cell?_alloc_new]; rfl
  · rw [hb.frozen hl, ← hs, World.frozen?_alloc_new]
  · rw [hb.frozen hl, ← hs, World.frozen?_alloc_new]

set_option maxHeartbeats 1000000 in
theorem times_any (a b d : Int) (w : World) (hb : 0 ≤ b) (hb1 : b ≤ 18446744073709551615) (hd : 0 ≤ d) (hd1 : d ≤ 255) :
    Calls Try.prog 38 #[.agg #[.int .i64 a, .int .u64 b], .int .u8 d] w fun e w' =>
      e = .returned (.agg #[.int .i64 (nrm (10 * val a b + d)).1, .int .u64 (nrm (10 * val a b + d)).2]) ∧ Below w.heap.size w w' := by
  have T := Lib.hid (nrm_times a b d hb hb1)
  have q0 : 0 ≤ b * 10 / B64 ∧ b * 10 / B64 ≤ 9 := by unfold B64; omega
  have r0 : 0 ≤ b * 10 % B64 ∧ b * 10 % B64 ≤ 18446744073709551615 := by unfold B64; omega
  obtain ⟨q, hq⟩ : ∃ q, q = b * 10 / B64 := ⟨_, rfl⟩
  obtain ⟨r, hr⟩ : ∃ r, r = b * 10 % B64 := ⟨_, rfl⟩
  rw [← hq, ← hr] at T
  rw [← hq] at q0
  rw [← hr] at r0
  have HQ := Lib.hid hq
  have HR := Lib.hid hr
  obtain ⟨q0, q1⟩ := q0
  obtain ⟨r0, r1⟩ := r0
  clear hq hr
  go_enter Try.func38, Try.ntmps38
  go_wp2_with fail
  refine (mul10 b _ hb hb1).mono ?_
  rintro e w1 ⟨rfl, rfl⟩
  rw [← HQ.out, ← HR.out]
  have HZ := Lib.hid (show w.heap.size + 1 < w.heap.size + 1 + 1 by omega)
  go_wp2_with fail
  refine (Add_any _ _ _ _ _ r0 r1 hd (by omega)).mono ?_
  rintro e w2 ⟨rfl, hb⟩
  rw [T.out]
  obtain ⟨c0, c1, f0, f1⟩ := two_cells w _ (.int .i64 0) (.int .u64 0) _ w2 hb
  have HB := Lib.hid hb
  clear hb
  go_wp2
  refine bodyPost_ret (v := .agg #[.int .i64 (nrm (10 * val a b + d)).1, .int .u64 (nrm (10 * val a b + d)).2]) ?_ rfl ⟨rfl, ?_⟩
  · have D := two_set c0 c1 (.int .i64 (nrm (10 * val a b + d)).1) (.int .u64 (nrm (10 * val a b + d)).2)
    simp [results, Try.results38, go_sem, D.1, D.2]
  · exact ((((Below.refl _ w).alloc (Nat.le_refl _) _).alloc (by simp) _).trans (HB.out.mono (by simp; omega)) |>.setCell (by simp) _).setCell (by simp) _

end Go.Proofs.Ytfbmdlheajclcaa.HWide

namespace Go.Proofs.Ytfbmdlheajclcaa.Print
open Go.RowKit Go.Proofs.Ytfbmdlheajclcaa.HWide Go.Proofs.YtfbmdlheajclcaaW.PrintWords

def U64 (n : Int) : Prop := 0 ≤ n ∧ n ≤ 18446744073709551615
instance (n : Int) : Decidable (U64 n) := inferInstanceAs (Decidable (_ ∧ _))

def wide_Sum_Add.f (a b c d : Int) : Option (Int × Int) := if U64 b ∧ U64 d then some (nrm (val a b + val c d)) else none
theorem wide_Sum_Add.calls (a0_0 : Int) (a0_1 : Int) (a1_0 : Int) (a1_1 : Int) (r1 : Int) (r2 : Int) (w : World) (h : wide_Sum_Add.f a0_0 a0_1 a1_0 a1_1 = some (r1, r2)) :
    Calls Try.prog 13 #[.agg #[.int .i64 a0_0, .int .u64 a0_1], .agg #[.int .i64 a1_0, .int .u64 a1_1]] w fun e w' => e = .returned (.agg #[.int .i64 r1, .int .u64 r2]) ∧ Below w.heap.size w w' := by
  unfold wide_Sum_Add.f at h
  by_cases g : U64 a0_1 ∧ U64 a1_1
  · rw [if_pos g] at h
    have e := Option.some.inj h
    have := Add_any a0_0 a0_1 a1_0 a1_1 w g.1.1 g.1.2 g.2.1 g.2.2
    rw [e] at this
    exact this
  · rw [if_neg g] at h; cases h

def wide_Sum_Neg.f (a b : Int) : Option (Int × Int) := if U64 b then some (nrm (-val a b)) else none
theorem wide_Sum_Neg.calls (a0_0 : Int) (a0_1 : Int) (r1 : Int) (r2 : Int) (w : World) (h : wide_Sum_Neg.f a0_0 a0_1 = some (r1, r2)) :
    Calls Try.prog 15 #[.agg #[.int .i64 a0_0, .int .u64 a0_1]] w fun e w' => e = .returned (.agg #[.int .i64 r1, .int .u64 r2]) ∧ Below w.heap.size w w' := by
  unfold wide_Sum_Neg.f at h
  by_cases g : U64 a0_1
  · rw [if_pos g] at h
    have e := Option.some.inj h
    have := Neg_any a0_0 a0_1 w g.1 g.2
    rw [e] at this
    exact this
  · rw [if_neg g] at h; cases h

def wide_Sum_times.f (a b d : Int) : Option (Int × Int) := if U64 b ∧ 0 ≤ d ∧ d ≤ 255 then some (nrm (10 * val a b + d)) else none
theorem wide_Sum_times.calls (a0_0 : Int) (a0_1 : Int) (a1 : Int) (r1 : Int) (r2 : Int) (w : World) (h : wide_Sum_times.f a0_0 a0_1 a1 = some (r1, r2)) :
    Calls Try.prog 38 #[.agg #[.int .i64 a0_0, .int .u64 a0_1], .int .u8 a1] w fun e w' => e = .returned (.agg #[.int .i64 r1, .int .u64 r2]) ∧ Below w.heap.size w w' := by
  unfold wide_Sum_times.f at h
  by_cases g : U64 a0_1 ∧ 0 ≤ a1 ∧ a1 ≤ 255
  · rw [if_pos g] at h
    have e := Option.some.inj h
    have := times_any a0_0 a0_1 a1 w g.1.1 g.1.2 g.2.1 g.2.2
    rw [e] at this
    exact this
  · rw [if_neg g] at h; cases h

def bits_Div64.f (a b c : Int) : Option (Int × Int) := if c = 10 ∧ U64 b ∧ 0 ≤ a ∧ a ≤ 9 then some (val a b / 10, val a b % 10) else none
theorem bits_Div64.calls (a0 : Int) (a1 : Int) (a2 : Int) (r1 : Int) (r2 : Int) (w : World) (h : bits_Div64.f a0 a1 a2 = some (r1, r2)) :
    Calls Try.prog 35 #[.int .u64 a0, .int .u64 a1, .int .u64 a2] w fun e w' => e = .returned (.tuple #[.int .u64 r1, .int .u64 r2]) ∧ Drawn0 w w' := by
  unfold bits_Div64.f at h
  by_cases g : a2 = 10 ∧ U64 a1 ∧ 0 ≤ a0 ∧ a0 ≤ 9
  · rw [if_pos g] at h
    obtain ⟨rfl, rfl⟩ := Prod.mk.inj (Option.some.inj h)
    obtain ⟨rfl, g1, g2, g3⟩ := g
    exact (div10_any a0 a1 w g1.1 g1.2 g2 g3).mono fun _ _ q => ⟨q.1, ⟨q.2⟩⟩
  · rw [if_neg g] at h; cases h

end Go.Proofs.Ytfbmdlheajclcaa.Print
