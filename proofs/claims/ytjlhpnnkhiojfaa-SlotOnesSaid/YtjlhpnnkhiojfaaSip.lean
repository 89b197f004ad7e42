/- Contracts of the package sip: the sum of a text, any key and any text that memory holds; walked by hand. -/
import Derived.Test.YtjlhpnnkhiojfaaPrint1
import Derived.Test.YtjlhpnnkhiojfaaQTail
import Derived.Laws.BitsAllLaws
import Derived.Lib.Hide
import Derived.LoopTactic
import Derived.WalkKit
namespace Go.Proofs.Ytjlhpnnkhiojfaa.HSip
open Go.RowKit Go.Proofs.Ytjlhpnnkhiojfaa.Print Go.Proofs.YtjlhpnnkhiojfaaW.PrintWords Go.Proofs.YtjlhpnnkhiojfaaW.PrintLast Go.Proofs.YtjlhpnnkhiojfaaW.PrintMore

def M64 : Nat := 18446744073709551616
def rotl (x k : Nat) : Nat := (x * 2 ^ k % M64) ||| (x / 2 ^ (64 - k))
def add64 (x y : Nat) : Nat := (x + y) % M64

theorem wrap_nat (n : Nat) : IntKind.u64.wrap (n : Int) = ((n % M64 : Nat) : Int) := by
  unfold M64
  simp only [IntKind.wrap, IntKind.signed, IntKind.bits, Bool.false_and, Bool.false_eq_true, if_false]
  omega

theorem or_nat (a b : Nat) (ha : a < M64) (hb : b < M64) : Go.bits .or .u64 (a : Int) (b : Int) = ((a ||| b : Nat) : Int) := u64_or_nat a b ha hb
theorem xor_nat (a b : Nat) (ha : a < M64) (hb : b < M64) : Go.bits .xor .u64 (a : Int) (b : Int) = ((a ^^^ b : Nat) : Int) := u64_xor_nat a b ha hb

theorem rot_f (x k : Nat) (hx : x < M64) (hk : k < 64) (hk0 : 0 < k) : bits_RotateLeft64.f (x : Int) (k : Int) = some ((rotl x k : Nat) : Int) := by
  have hx' := hx
  unfold M64 at hx
  unfold bits_RotateLeft64.f
  have e1 : IntKind.u64.wrap (k : Int) = (k : Int) := by
    simp only [IntKind.wrap, IntKind.signed, IntKind.bits, Bool.false_and, Bool.false_eq_true, if_false]; omega
  have e2 : Go.bits .and .u64 (k : Int) 63 = (k : Int) := by
    have := u64_and_nat k 63 (by omega) (by omega)
    rw [show ((63 : Nat) : Int) = 63 from rfl] at this
    rw [this, show (63 : Nat) = 2 ^ 6 - 1 from rfl, Nat.and_two_pow_sub_one_eq_mod, Nat.mod_eq_of_lt (by omega)]
  have e3 : IntKind.u64.wrap (64 - (k : Int)) = ((64 - k : Nat) : Int) := by
    simp only [IntKind.wrap, IntKind.signed, IntKind.bits, Bool.false_and, Bool.false_eq_true, if_false]; omega
  rw [e1, e2, e3, if_pos (by omega), if_pos (by omega)]
  have s1 : shl .u64 (x : Int) (k : Int) = ((x * 2 ^ k % M64 : Nat) : Int) := by
    unfold shl
    rw [Int.toNat_natCast, Nat.min_eq_left (by simp only [IntKind.bits]; omega), ← wrap_nat]
    congr 1
  have s2 : shr .u64 (x : Int) ((64 - k : Nat) : Int) = ((x / 2 ^ (64 - k) : Nat) : Int) := by
    unfold shr
    rw [Int.toNat_natCast, Nat.min_eq_left (by simp only [IntKind.bits]; omega)]
    push_cast; rfl
  rw [s1, s2, or_nat _ _ (Nat.mod_lt _ (by decide)) (Nat.lt_of_le_of_lt (Nat.div_le_self _ _) hx')]
  rfl

theorem rot_any (x k : Nat) (w : World) (hx : x < M64) (hk : k < 64) (hk0 : 0 < k) :
    Calls Try.prog 29 #[.int .u64 x, .int .i64 k] w fun e w' => e = .returned (.int .u64 (rotl x k : Nat)) ∧ ∃ n, w' = w.drewN n :=
  (bits_RotateLeft64.calls (x : Int) (k : Int) _ w (rot_f x k hx hk hk0)).mono fun _ _ h => ⟨h.1, h.2.out⟩

/-- The four words in a block of their own. -/
def St (w : World) (b : Nat) (v0 v1 v2 v3 : Nat) : Prop := w.heap[b]? = some (.cells #[.int .u64 v0, .int .u64 v1, .int .u64 v2, .int .u64 v3] (64) (0, 0))

structure Only (b : Nat) (w w' : World) : Prop where
  os : w'.os = w.os
  tape : w'.tape = w.tape
  output : w'.output = w.output
  size : w'.heap.size = w.heap.size
  block : ∀ k, k ≠ b → w'.heap[k]? = w.heap[k]?

theorem St.c {w : World} {b v0 v1 v2 v3 : Nat} (h : St w b v0 v1 v2 v3) : w.cell? ⟨b, 0, none⟩ = some (.int .u64 v0) ∧ w.cell? ⟨b, 1, none⟩ = some (.int .u64 v1) ∧ w.cell? ⟨b, 2, none⟩ = some (.int .u64 v2) ∧ w.cell? ⟨b, 3, none⟩ = some (.int .u64 v3) ∧
    w.frozen? ⟨b, 0, none⟩ = false ∧ w.frozen? ⟨b, 1, none⟩ = false ∧ w.frozen? ⟨b, 2, none⟩ = false ∧ w.frozen? ⟨b, 3, none⟩ = false := by
  unfold St at h
  simp [World.cell?, World.frozen?, h]

theorem add_eq (x y : Nat) : IntKind.u64.wrap ((x : Int) + (y : Int)) = ((add64 x y : Nat) : Int) := by
  rw [← Int.natCast_add, wrap_nat]; rfl
theorem add_lt (x y : Nat) : add64 x y < M64 := Nat.mod_lt _ (by decide)
theorem xor_lt (x y : Nat) (hx : x < M64) (hy : y < M64) : x ^^^ y < M64 := Nat.xor_lt_two_pow (n := 64) hx hy
theorem rotl_lt (x k : Nat) (hx : x < M64) (_hk : k < 64) : rotl x k < M64 :=
  Nat.or_lt_two_pow (n := 64) (Nat.mod_lt _ (by decide)) (Nat.lt_of_le_of_lt (Nat.div_le_self _ _) hx)

theorem Only.refl (b : Nat) (w : World) : Only b w w := ⟨rfl, rfl, rfl, rfl, fun _ _ => rfl⟩
theorem Only.trans {b : Nat} {w1 w2 w3 : World} (h : Only b w1 w2) (k : Only b w2 w3) : Only b w1 w3 :=
  ⟨k.os.trans h.os, k.tape.trans h.tape, k.output.trans h.output, k.size.trans h.size, fun i hi => (k.block i hi).trans (h.block i hi)⟩
theorem Only.set (w : World) (b o : Nat) (v : Value) (n : Nat) : Only b w ((w.drewN n).setCell ⟨b, o, none⟩ v) :=
  ⟨rfl, rfl, rfl, by simp, fun k hk => Below.heap_setCell _ _ _ _ hk⟩

theorem heap_set {w : World} {b : Nat} {c : Array Value} {t : TypeId} (h : w.heap[b]? = some (.cells c t (0, 0))) (o : Nat) (v : Value) (n : Nat) :
    ((w.drewN n).setCell ⟨b, o, none⟩ v).heap[b]? = some (.cells (c.setIfInBounds o v) t (0, 0)) := by
  show (w.heap.modify b _)[b]? = _
  rw [Array.getElem?_modify, if_pos rfl, h]
  rfl
theorem St.set0 {w : World} {b v0 v1 v2 v3 : Nat} (h : St w b v0 v1 v2 v3) (x n : Nat) : St ((w.drewN n).setCell ⟨b, 0, none⟩ (.int .u64 x)) b x v1 v2 v3 := heap_set h 0 _ n
theorem St.set1 {w : World} {b v0 v1 v2 v3 : Nat} (h : St w b v0 v1 v2 v3) (x n : Nat) : St ((w.drewN n).setCell ⟨b, 1, none⟩ (.int .u64 x)) b v0 x v2 v3 := heap_set h 1 _ n
theorem St.set2 {w : World} {b v0 v1 v2 v3 : Nat} (h : St w b v0 v1 v2 v3) (x n : Nat) : St ((w.drewN n).setCell ⟨b, 2, none⟩ (.int .u64 x)) b v0 v1 x v3 := heap_set h 2 _ n
theorem St.set3 {w : World} {b v0 v1 v2 v3 : Nat} (h : St w b v0 v1 v2 v3) (x n : Nat) : St ((w.drewN n).setCell ⟨b, 3, none⟩ (.int .u64 x)) b v0 v1 v2 x := heap_set h 3 _ n

/-- The round: the four words behind it. -/
def rnd (v : Nat × Nat × Nat × Nat) : Nat × Nat × Nat × Nat :=
  let x1 := add64 v.1 v.2.1
  let x2 := add64 v.2.2.1 v.2.2.2
  let x3 := rotl v.2.1 13 ^^^ x1
  let x4 := rotl v.2.2.2 16 ^^^ x2
  let x5 := rotl x1 32
  let x6 := add64 x2 x3
  let x7 := add64 x5 x4
  (x7, rotl x3 17 ^^^ x6, rotl x6 32, rotl x4 21 ^^^ x7)

def Lt4 (v : Nat × Nat × Nat × Nat) : Prop := v.1 < M64 ∧ v.2.1 < M64 ∧ v.2.2.1 < M64 ∧ v.2.2.2 < M64
def St4 (w : World) (b : Nat) (v : Nat × Nat × Nat × Nat) : Prop := St w b v.1 v.2.1 v.2.2.1 v.2.2.2

set_option maxHeartbeats 4000000 in
theorem round_any (b v0 v1 v2 v3 : Nat) (w : World) (_h0 : v0 < M64) (h1 : v1 < M64) (_h2 : v2 < M64) (h3 : v3 < M64) (hw : St w b v0 v1 v2 v3) :
    Calls Try.prog 28 #[.pointer (some ⟨b, 0, none⟩)] w fun e w' => e = .returned (.tuple #[]) ∧ (St4 w' b (rnd (v0, v1, v2, v3)) ∧ Lt4 (rnd (v0, v1, v2, v3)) ∧ Only b w w') := by
  have S0 := Lib.hid hw
  clear hw
  obtain ⟨c0, c1, c2, c3, f0, f1, f2, f3⟩ := S0.out.c
  go_enter Try.func28, Try.ntmps28
  go_wp2
  -- statement 1
  refine QTail.wp_region_drawn_tail 11 (by kernel_rfl) (by kernel_rfl) ?_
  simp only [List.take_succ_cons, List.take_zero]
  repeat (quiet_step (fail))
  refine wpQuiet_nil ?_
  intro _ hw'
  obtain ⟨nq, rfl⟩ := hw'
  simp only [List.drop_succ_cons, List.drop_zero]
  go_wp2
  rw [add_eq v0 v1]
  obtain ⟨x1, e1⟩ : ∃ x, x = add64 v0 v1 := ⟨_, rfl⟩
  have g1 : x1 < M64 := by rw [e1]; exact add_lt _ _
  rw [← e1]
  have E1 := Lib.hid e1
  clear e1
  obtain ⟨W1, q1⟩ : ∃ W, W = (w.drewN nq).setCell ⟨b, 0, none⟩ (.int .u64 (x1 : Nat)) := ⟨_, rfl⟩
  rw [← q1]
  have S1 := Lib.hid (show St W1 b x1 v1 v2 v3 by rw [q1]; exact S0.out.set0 x1 nq)
  have O1 := Lib.hid (show Only b w W1 by rw [q1]; exact Only.set w b 0 _ nq)
  clear q1 c0 c1 c2 c3 f0 f1 f2 f3 nq
  obtain ⟨c0, c1, c2, c3, f0, f1, f2, f3⟩ := S1.out.c
  try go_wp2
  -- statement 2
  refine QTail.wp_region_drawn_tail 11 (by kernel_rfl) (by kernel_rfl) ?_
  simp only [List.take_succ_cons, List.take_zero]
  repeat (quiet_step (fail))
  refine wpQuiet_nil ?_
  intro _ hw'
  obtain ⟨nq, rfl⟩ := hw'
  simp only [List.drop_succ_cons, List.drop_zero]
  go_wp2
  rw [add_eq v2 v3]
  obtain ⟨x2, e2⟩ : ∃ x, x = add64 v2 v3 := ⟨_, rfl⟩
  have g2 : x2 < M64 := by rw [e2]; exact add_lt _ _
  rw [← e2]
  have E2 := Lib.hid e2
  clear e2
  obtain ⟨W2, q2⟩ : ∃ W, W = (W1.drewN nq).setCell ⟨b, 2, none⟩ (.int .u64 (x2 : Nat)) := ⟨_, rfl⟩
  rw [← q2]
  have S2 := Lib.hid (show St W2 b x1 v1 x2 v3 by rw [q2]; exact S1.out.set2 x2 nq)
  have O2 := Lib.hid (show Only b W1 W2 by rw [q2]; exact Only.set W1 b 2 _ nq)
  clear q2 c0 c1 c2 c3 f0 f1 f2 f3 nq
  obtain ⟨c0, c1, c2, c3, f0, f1, f2, f3⟩ := S2.out.c
  try go_wp2
  -- statement 3
  refine QTail.wp_region_drawn_tail 13 (by kernel_rfl) (by kernel_rfl) ?_
  simp only [List.take_succ_cons, List.take_zero]
  repeat (quiet_step (((go_at_call 29; exact Calls.quiet_of (rot_any v1 13 _ h1 (by decide) (by decide))))))
  refine wpQuiet_nil ?_
  intro _ hw'
  obtain ⟨nq, rfl⟩ := hw'
  simp only [List.drop_succ_cons, List.drop_zero]
  go_wp2
  rw [xor_nat _ _ (rotl_lt v1 13 h1 (by decide)) g1]
  obtain ⟨x3, e3⟩ : ∃ x, x = rotl v1 13 ^^^ x1 := ⟨_, rfl⟩
  have g3 : x3 < M64 := by rw [e3]; exact xor_lt _ _ (rotl_lt _ _ h1 (by decide)) g1
  rw [← e3]
  have E3 := Lib.hid e3
  clear e3
  obtain ⟨W3, q3⟩ : ∃ W, W = (W2.drewN nq).setCell ⟨b, 1, none⟩ (.int .u64 (x3 : Nat)) := ⟨_, rfl⟩
  rw [← q3]
  have S3 := Lib.hid (show St W3 b x1 x3 x2 v3 by rw [q3]; exact S2.out.set1 x3 nq)
  have O3 := Lib.hid (show Only b W2 W3 by rw [q3]; exact Only.set W2 b 1 _ nq)
  clear q3 c0 c1 c2 c3 f0 f1 f2 f3 nq
  obtain ⟨c0, c1, c2, c3, f0, f1, f2, f3⟩ := S3.out.c
  try go_wp2
  -- statement 4
  refine QTail.wp_region_drawn_tail 13 (by kernel_rfl) (by kernel_rfl) ?_
  simp only [List.take_succ_cons, List.take_zero]
  repeat (quiet_step (((go_at_call 29; exact Calls.quiet_of (rot_any v3 16 _ h3 (by decide) (by decide))))))
  refine wpQuiet_nil ?_
  intro _ hw'
  obtain ⟨nq, rfl⟩ := hw'
  simp only [List.drop_succ_cons, List.drop_zero]
  go_wp2
  rw [xor_nat _ _ (rotl_lt v3 16 h3 (by decide)) g2]
  obtain ⟨x4, e4⟩ : ∃ x, x = rotl v3 16 ^^^ x2 := ⟨_, rfl⟩
  have g4 : x4 < M64 := by rw [e4]; exact xor_lt _ _ (rotl_lt _ _ h3 (by decide)) g2
  rw [← e4]
  have E4 := Lib.hid e4
  clear e4
  obtain ⟨W4, q4⟩ : ∃ W, W = (W3.drewN nq).setCell ⟨b, 3, none⟩ (.int .u64 (x4 : Nat)) := ⟨_, rfl⟩
  rw [← q4]
  have S4 := Lib.hid (show St W4 b x1 x3 x2 x4 by rw [q4]; exact S3.out.set3 x4 nq)
  have O4 := Lib.hid (show Only b W3 W4 by rw [q4]; exact Only.set W3 b 3 _ nq)
  clear q4 c0 c1 c2 c3 f0 f1 f2 f3 nq
  obtain ⟨c0, c1, c2, c3, f0, f1, f2, f3⟩ := S4.out.c
  try go_wp2
  -- statement 5
  refine QTail.wp_region_drawn_tail 8 (by kernel_rfl) (by kernel_rfl) ?_
  simp only [List.take_succ_cons, List.take_zero]
  repeat (quiet_step (((go_at_call 29; exact Calls.quiet_of (rot_any x1 32 _ g1 (by decide) (by decide))))))
  refine wpQuiet_nil ?_
  intro _ hw'
  obtain ⟨nq, rfl⟩ := hw'
  simp only [List.drop_succ_cons, List.drop_zero]
  go_wp2
  obtain ⟨x5, e5⟩ : ∃ x, x = rotl x1 32 := ⟨_, rfl⟩
  have g5 : x5 < M64 := by rw [e5]; exact rotl_lt _ _ g1 (by decide)
  rw [← e5]
  have E5 := Lib.hid e5
  clear e5
  obtain ⟨W5, q5⟩ : ∃ W, W = (W4.drewN nq).setCell ⟨b, 0, none⟩ (.int .u64 (x5 : Nat)) := ⟨_, rfl⟩
  rw [← q5]
  have S5 := Lib.hid (show St W5 b x5 x3 x2 x4 by rw [q5]; exact S4.out.set0 x5 nq)
  have O5 := Lib.hid (show Only b W4 W5 by rw [q5]; exact Only.set W4 b 0 _ nq)
  clear q5 c0 c1 c2 c3 f0 f1 f2 f3 nq
  obtain ⟨c0, c1, c2, c3, f0, f1, f2, f3⟩ := S5.out.c
  try go_wp2
  -- statement 6
  refine QTail.wp_region_drawn_tail 11 (by kernel_rfl) (by kernel_rfl) ?_
  simp only [List.take_succ_cons, List.take_zero]
  repeat (quiet_step (fail))
  refine wpQuiet_nil ?_
  intro _ hw'
  obtain ⟨nq, rfl⟩ := hw'
  simp only [List.drop_succ_cons, List.drop_zero]
  go_wp2
  rw [add_eq x2 x3]
  obtain ⟨x6, e6⟩ : ∃ x, x = add64 x2 x3 := ⟨_, rfl⟩
  have g6 : x6 < M64 := by rw [e6]; exact add_lt _ _
  rw [← e6]
  have E6 := Lib.hid e6
  clear e6
  obtain ⟨W6, q6⟩ : ∃ W, W = (W5.drewN nq).setCell ⟨b, 2, none⟩ (.int .u64 (x6 : Nat)) := ⟨_, rfl⟩
  rw [← q6]
  have S6 := Lib.hid (show St W6 b x5 x3 x6 x4 by rw [q6]; exact S5.out.set2 x6 nq)
  have O6 := Lib.hid (show Only b W5 W6 by rw [q6]; exact Only.set W5 b 2 _ nq)
  clear q6 c0 c1 c2 c3 f0 f1 f2 f3 nq
  obtain ⟨c0, c1, c2, c3, f0, f1, f2, f3⟩ := S6.out.c
  try go_wp2
  -- statement 7
  refine QTail.wp_region_drawn_tail 11 (by kernel_rfl) (by kernel_rfl) ?_
  simp only [List.take_succ_cons, List.take_zero]
  repeat (quiet_step (fail))
  refine wpQuiet_nil ?_
  intro _ hw'
  obtain ⟨nq, rfl⟩ := hw'
  simp only [List.drop_succ_cons, List.drop_zero]
  go_wp2
  rw [add_eq x5 x4]
  obtain ⟨x7, e7⟩ : ∃ x, x = add64 x5 x4 := ⟨_, rfl⟩
  have g7 : x7 < M64 := by rw [e7]; exact add_lt _ _
  rw [← e7]
  have E7 := Lib.hid e7
  clear e7
  obtain ⟨W7, q7⟩ : ∃ W, W = (W6.drewN nq).setCell ⟨b, 0, none⟩ (.int .u64 (x7 : Nat)) := ⟨_, rfl⟩
  rw [← q7]
  have S7 := Lib.hid (show St W7 b x7 x3 x6 x4 by rw [q7]; exact S6.out.set0 x7 nq)
  have O7 := Lib.hid (show Only b W6 W7 by rw [q7]; exact Only.set W6 b 0 _ nq)
  clear q7 c0 c1 c2 c3 f0 f1 f2 f3 nq
  obtain ⟨c0, c1, c2, c3, f0, f1, f2, f3⟩ := S7.out.c
  try go_wp2
  -- statement 8
  refine QTail.wp_region_drawn_tail 13 (by kernel_rfl) (by kernel_rfl) ?_
  simp only [List.take_succ_cons, List.take_zero]
  repeat (quiet_step (((go_at_call 29; exact Calls.quiet_of (rot_any x3 17 _ g3 (by decide) (by decide))))))
  refine wpQuiet_nil ?_
  intro _ hw'
  obtain ⟨nq, rfl⟩ := hw'
  simp only [List.drop_succ_cons, List.drop_zero]
  go_wp2
  rw [xor_nat _ _ (rotl_lt x3 17 g3 (by decide)) g6]
  obtain ⟨x8, e8⟩ : ∃ x, x = rotl x3 17 ^^^ x6 := ⟨_, rfl⟩
  have g8 : x8 < M64 := by rw [e8]; exact xor_lt _ _ (rotl_lt _ _ g3 (by decide)) g6
  rw [← e8]
  have E8 := Lib.hid e8
  clear e8
  obtain ⟨W8, q8⟩ : ∃ W, W = (W7.drewN nq).setCell ⟨b, 1, none⟩ (.int .u64 (x8 : Nat)) := ⟨_, rfl⟩
  rw [← q8]
  have S8 := Lib.hid (show St W8 b x7 x8 x6 x4 by rw [q8]; exact S7.out.set1 x8 nq)
  have O8 := Lib.hid (show Only b W7 W8 by rw [q8]; exact Only.set W7 b 1 _ nq)
  clear q8 c0 c1 c2 c3 f0 f1 f2 f3 nq
  obtain ⟨c0, c1, c2, c3, f0, f1, f2, f3⟩ := S8.out.c
  try go_wp2
  -- statement 9
  refine QTail.wp_region_drawn_tail 13 (by kernel_rfl) (by kernel_rfl) ?_
  simp only [List.take_succ_cons, List.take_zero]
  repeat (quiet_step (((go_at_call 29; exact Calls.quiet_of (rot_any x4 21 _ g4 (by decide) (by decide))))))
  refine wpQuiet_nil ?_
  intro _ hw'
  obtain ⟨nq, rfl⟩ := hw'
  simp only [List.drop_succ_cons, List.drop_zero]
  go_wp2
  rw [xor_nat _ _ (rotl_lt x4 21 g4 (by decide)) g7]
  obtain ⟨x9, e9⟩ : ∃ x, x = rotl x4 21 ^^^ x7 := ⟨_, rfl⟩
  have g9 : x9 < M64 := by rw [e9]; exact xor_lt _ _ (rotl_lt _ _ g4 (by decide)) g7
  rw [← e9]
  have E9 := Lib.hid e9
  clear e9
  obtain ⟨W9, q9⟩ : ∃ W, W = (W8.drewN nq).setCell ⟨b, 3, none⟩ (.int .u64 (x9 : Nat)) := ⟨_, rfl⟩
  rw [← q9]
  have S9 := Lib.hid (show St W9 b x7 x8 x6 x9 by rw [q9]; exact S8.out.set3 x9 nq)
  have O9 := Lib.hid (show Only b W8 W9 by rw [q9]; exact Only.set W8 b 3 _ nq)
  clear q9 c0 c1 c2 c3 f0 f1 f2 f3 nq
  obtain ⟨c0, c1, c2, c3, f0, f1, f2, f3⟩ := S9.out.c
  try go_wp2
  -- statement 10
  refine QTail.wp_region_drawn_tail 8 (by kernel_rfl) (by kernel_rfl) ?_
  simp only [List.take_succ_cons, List.take_zero]
  repeat (quiet_step (((go_at_call 29; exact Calls.quiet_of (rot_any x6 32 _ g6 (by decide) (by decide))))))
  refine wpQuiet_nil ?_
  intro _ hw'
  obtain ⟨nq, rfl⟩ := hw'
  simp only [List.drop_succ_cons, List.drop_zero]
  go_wp2
  obtain ⟨x10, e10⟩ : ∃ x, x = rotl x6 32 := ⟨_, rfl⟩
  have g10 : x10 < M64 := by rw [e10]; exact rotl_lt _ _ g6 (by decide)
  rw [← e10]
  have E10 := Lib.hid e10
  clear e10
  obtain ⟨W10, q10⟩ : ∃ W, W = (W9.drewN nq).setCell ⟨b, 2, none⟩ (.int .u64 (x10 : Nat)) := ⟨_, rfl⟩
  rw [← q10]
  have S10 := Lib.hid (show St W10 b x7 x8 x10 x9 by rw [q10]; exact S9.out.set2 x10 nq)
  have O10 := Lib.hid (show Only b W9 W10 by rw [q10]; exact Only.set W9 b 2 _ nq)
  clear q10 c0 c1 c2 c3 f0 f1 f2 f3 nq
  obtain ⟨c0, c1, c2, c3, f0, f1, f2, f3⟩ := S10.out.c
  go_end0
  have R : rnd (v0, v1, v2, v3) = (x7, x8, x10, x9) := by
    rw [E7.out, E8.out, E9.out, E10.out, E7.out, E6.out, E5.out, E4.out, E3.out, E2.out, E1.out]; rfl
  refine ⟨rfl, ?_, ?_, ?_⟩
  · rw [R]; exact S10.out
  · rw [R]; exact ⟨g7, g8, g10, g9⟩
  · exact O1.out.trans (O2.out.trans (O3.out.trans (O4.out.trans (O5.out.trans (O6.out.trans (O7.out.trans (O8.out.trans (O9.out.trans O10.out))))))))

abbrev S4 := Nat × Nat × Nat × Nat
def rnds : Nat → S4 → S4
  | 0, v => v
  | k + 1, v => rnd (rnds k v)
def mixN (v : S4) (m : Nat) : S4 :=
  let u := rnds 2 (v.1, v.2.1, v.2.2.1, v.2.2.2 ^^^ m)
  (u.1 ^^^ m, u.2.1, u.2.2.1, u.2.2.2)

theorem round4 (b : Nat) (v : S4) (w : World) (hv : Lt4 v) (hw : St4 w b v) :
    Calls Try.prog 28 #[.pointer (some ⟨b, 0, none⟩)] w fun e w' => e = .returned (.tuple #[]) ∧ (St4 w' b (rnd v) ∧ Lt4 (rnd v) ∧ Only b w w') :=
  round_any b v.1 v.2.1 v.2.2.1 v.2.2.2 w hv.1 hv.2.1 hv.2.2.1 hv.2.2.2 hw

set_option maxHeartbeats 1000000 in
theorem mix_any (b : Nat) (v : S4) (m : Nat) (w : World) (hv : Lt4 v) (hm : m < M64) (hw : St4 w b v) :
    Calls Try.prog 27 #[.pointer (some ⟨b, 0, none⟩), .int .u64 m] w fun e w' => e = .returned (.tuple #[]) ∧ (St4 w' b (mixN v m) ∧ Lt4 (mixN v m) ∧ Only b w w') := by
  obtain ⟨v0, v1, v2, v3⟩ := v
  obtain ⟨h0, h1, h2, h3⟩ := hv
  have S0 := Lib.hid (show St w b v0 v1 v2 v3 from hw)
  clear hw
  obtain ⟨c0, c1, c2, c3, f0, f1, f2, f3⟩ := S0.out.c
  go_enter Try.func27, Try.ntmps27
  go_wp2
  refine QTail.wp_region_drawn_tail 8 (by kernel_rfl) (by kernel_rfl) ?_
  simp only [List.take_succ_cons, List.take_zero]
  repeat (quiet_step (fail))
  refine wpQuiet_nil ?_
  intro _ hw'
  obtain ⟨nq, rfl⟩ := hw'
  simp only [List.drop_succ_cons, List.drop_zero]
  go_wp2
  rw [xor_nat v3 m h3 hm]
  obtain ⟨x, e1⟩ : ∃ x, x = v3 ^^^ m := ⟨_, rfl⟩
  have g1 : x < M64 := by rw [e1]; exact xor_lt _ _ h3 hm
  rw [← e1]
  have E1 := Lib.hid e1
  clear e1
  obtain ⟨W1, q1⟩ : ∃ W, W = (w.drewN nq).setCell ⟨b, 3, none⟩ (.int .u64 (x : Nat)) := ⟨_, rfl⟩
  rw [← q1]
  have S1 := Lib.hid (show St4 W1 b (v0, v1, v2, x) by rw [q1]; exact S0.out.set3 x nq)
  have O1 := Lib.hid (show Only b w W1 by rw [q1]; exact Only.set w b 3 _ nq)
  clear q1 c0 c1 c2 c3 f0 f1 f2 f3 nq
  have L1 := Lib.hid (show Lt4 (v0, v1, v2, x) from ⟨h0, h1, h2, g1⟩)
  go_loopw [12] (fun i wr => ∃ k : Nat, k ≤ 2 ∧ i = .int .i64 k ∧ (St4 wr b (rnds k (v0, v1, v2, x)) ∧ Lt4 (rnds k (v0, v1, v2, x)) ∧ Only b w wr)) (fun i _ => 2 - (intOf i).toNat)
  case atStart => exact ⟨0, Nat.zero_le _, rfl, S1.out, L1.out, O1.out⟩
  case round =>
    obtain ⟨k, hk, rfl, hh⟩ := hrel
    have HH := Lib.hid hh
    clear hh
    rcases Nat.lt_or_ge k 2 with hlt | hge
    · go_wp2_with (go_at_call 28; refine (round4 b _ _ HH.out.2.1 HH.out.1).mono ?_; rintro e w2 ⟨rfl, hh2⟩; have H2 := Lib.hid hh2; clear hh2)
      go_roundw
      case rel => exact ⟨k + 1, by omega, by go_num, H2.out.1, H2.out.2.1, HH.out.2.2.trans H2.out.2.2⟩
      case measure => simp [intOf]; omega
    · obtain rfl : k = 2 := by omega
      obtain ⟨u, hu⟩ : ∃ u, u = rnds 2 (v0, v1, v2, x) := ⟨_, rfl⟩
      have HU := Lib.hid hu
      rw [← hu] at HH
      clear hu
      obtain ⟨u0, u1, u2, u3⟩ := u
      obtain ⟨g0, g1', g2, g3⟩ := HH.out.2.1
      have SU := Lib.hid (show St wr b u0 u1 u2 u3 from HH.out.1)
      have OU := Lib.hid HH.out.2.2
      clear HH
      obtain ⟨c0, c1, c2, c3, f0, f1, f2, f3⟩ := SU.out.c
      go_wp2
      refine QTail.wp_region_drawn_tail 8 (by kernel_rfl) (by kernel_rfl) ?_
      simp only [List.take_succ_cons, List.take_zero]
      repeat (quiet_step (fail))
      refine wpQuiet_nil ?_
      intro _ hw'
      obtain ⟨nq, rfl⟩ := hw'
      simp only [List.drop_succ_cons, List.drop_zero]
      go_wp2
      go_end0
      have R : mixN (v0, v1, v2, v3) m = (u0 ^^^ m, u1, u2, u3) := by
        simp only [mixN]
        rw [← E1.out, ← HU.out]
      rw [R, xor_nat u0 m g0 hm]
      exact ⟨rfl, SU.out.set0 _ nq, ⟨xor_lt _ _ g0 hm, g1', g2, g3⟩, OU.out.trans (Only.set wr b 0 _ nq)⟩

/-- What has come in behind k bytes: the four words, and what there is of the next word. -/
def absTo (v : S4) (l : List UInt8) : Nat → S4 × Nat
  | 0 => (v, 0)
  | k + 1 =>
    let x := absTo v l k
    let m := x.2 ||| ((l.getD k 0).toNat * 2 ^ (8 * (k % 8)) % M64)
    if k % 8 = 7 then (mixN x.1 m, 0) else (x.1, m)

def initN (k0 k1 : Nat) : S4 := (k0 ^^^ 0x736f6d6570736575, k1 ^^^ 0x646f72616e646f6d, k0 ^^^ 0x6c7967656e657261, k1 ^^^ 0x7465646279746573)
def endN (v : S4) : Nat := v.1 ^^^ v.2.1 ^^^ v.2.2.1 ^^^ v.2.2.2
/-- The sum of a text. -/
def sumN (k0 k1 : Nat) (l : List UInt8) : Nat :=
  let x := absTo (initN k0 k1) l l.length
  let v := mixN x.1 (x.2 ||| (l.length * 2 ^ 56 % M64))
  endN (rnds 4 (v.1, v.2.1, v.2.2.1 ^^^ 255, v.2.2.2))

theorem initN_lt (k0 k1 : Nat) (h0 : k0 < M64) (h1 : k1 < M64) : Lt4 (initN k0 k1) :=
  ⟨xor_lt _ _ h0 (by decide), xor_lt _ _ h1 (by decide), xor_lt _ _ h0 (by decide), xor_lt _ _ h1 (by decide)⟩

theorem or_lt (x y : Nat) (hx : x < M64) (hy : y < M64) : x ||| y < M64 := Nat.or_lt_two_pow (n := 64) hx hy

theorem zero_lt : 0 < M64 := by decide

theorem absTo_mid (v : S4) (l : List UInt8) (k : Nat) (h : k % 8 ≠ 7) : absTo v l (k + 1) = ((absTo v l k).1, (absTo v l k).2 ||| ((l.getD k 0).toNat * 2 ^ (8 * (k % 8)) % M64)) := by
  simp only [absTo, if_neg h]
theorem absTo_end (v : S4) (l : List UInt8) (k : Nat) (h : k % 8 = 7) : absTo v l (k + 1) = (mixN (absTo v l k).1 ((absTo v l k).2 ||| ((l.getD k 0).toNat * 2 ^ (8 * (k % 8)) % M64)), 0) := by
  simp only [absTo, if_pos h]

theorem shl_nat (c j : Nat) (hc : c < M64) : IntKind.u64.wrap (IntKind.u64.wrap (c : Int) * 2 ^ j) = ((c * 2 ^ j % M64 : Nat) : Int) := by
  rw [wrap_nat, Nat.mod_eq_of_lt hc, ← wrap_nat]
  congr 1

theorem getD_byte (s : ByteArray) (k : Nat) (h : k < s.size) : s.data.toList.getD k 0 = s[k] := by
  have h' : k < s.data.toList.length := by simpa using h
  rw [List.getD, List.getElem?_eq_getElem h']
  rfl

theorem byte_lt (c : UInt8) : c.toNat < M64 := Nat.lt_trans c.toNat_lt (by decide)

theorem byte_or (m : Nat) (s : ByteArray) (k : Nat) (hm : m < M64) (h : k < s.size) : ∀ j, Go.bits .or .u64 (m : Int) (IntKind.u64.wrap (IntKind.u64.wrap (s[k].toNat : Int) * 2 ^ j)) = ((m ||| (s.data.toList.getD k 0).toNat * 2 ^ j % M64 : Nat) : Int) := by
  intro j
  rw [getD_byte s k h, shl_nat _ _ (byte_lt _), or_nat _ _ hm (Nat.mod_lt _ zero_lt)]

theorem size_or (m : Nat) (s : ByteArray) (hm : m < M64) (hs : s.size ≤ 140737488355328) :
    Go.bits .or .u64 (m : Int) (IntKind.u64.wrap ((s.size : Int) * 72057594037927936)) = ((m ||| s.size * 2 ^ 56 % M64 : Nat) : Int) := by
  have h : s.size < M64 := Nat.lt_of_le_of_lt hs (by decide)
  have e := wrap_nat s.size
  rw [Nat.mod_eq_of_lt h] at e
  have := shl_nat s.size 56 h
  rw [show (2 : Int) ^ 56 = 72057594037927936 from rfl, e] at this
  rw [this, or_nat _ _ hm (Nat.mod_lt _ zero_lt)]

theorem Only.below {b : Nat} {w w' : World} (h : Only b w w') : Below b w w' := ⟨h.os, h.tape, h.output, by rw [h.size]; exact Nat.le_refl _, fun k hk => h.block k (Nat.ne_of_lt hk)⟩
theorem below_drewN {B : Nat} {a w : World} (h : Below B a w) (n : Nat) : Below B a (w.drewN n) := ⟨h.os, h.tape, h.output, h.size, h.block⟩

set_option maxHeartbeats 1000000 in
theorem Sum_any (k0 k1 : Nat) (s : ByteArray) (w : World) (h0 : k0 < M64) (h1 : k1 < M64) (hs : s.size ≤ 140737488355328) :
    Calls Try.prog 26 #[.int .u64 k0, .int .u64 k1, .string s] w fun e w' => e = .returned (.int .u64 (sumN k0 k1 s.data.toList : Nat)) ∧ Below w.heap.size w w' := by
  have HI := Lib.hid (initN_lt k0 k1 h0 h1)
  have x0 := xor_nat k0 8317987319222330741 h0 (by decide)
  have x1 := xor_nat k1 7237128888997146477 h1 (by decide)
  have x2 := xor_nat k0 7816392313619706465 h0 (by decide)
  have x3 := xor_nat k1 8387220255154660723 h1 (by decide)
  have X := Lib.hid (And.intro x0 (And.intro x1 (And.intro x2 x3)))
  clear x0 x1 x2 x3
  go_enter Try.func26, Try.ntmps26
  go_wp2
  obtain ⟨W0, q0⟩ : ∃ W, W = w.alloc (.cells #[.int .u64 (Go.bits .xor .u64 k0 8317987319222330741), .int .u64 (Go.bits .xor .u64 k1 7237128888997146477), .int .u64 (Go.bits .xor .u64 k0 7816392313619706465), .int .u64 (Go.bits .xor .u64 k1 8387220255154660723)] (64)) := ⟨_, rfl⟩
  rw [← q0]
  obtain ⟨b, hb⟩ : ∃ b, b = w.heap.size := ⟨_, rfl⟩
  rw [← hb]
  have S0 := Lib.hid (show St4 W0 b (initN k0 k1) by
    rw [q0, hb]
    have e : (w.alloc (.cells #[.int .u64 (Go.bits .xor .u64 k0 8317987319222330741), .int .u64 (Go.bits .xor .u64 k1 7237128888997146477), .int .u64 (Go.bits .xor .u64 k0 7816392313619706465), .int .u64 (Go.bits .xor .u64 k1 8387220255154660723)] (64))).heap[w.heap.size]? = some (.cells #[.int .u64 (Go.bits .xor .u64 k0 8317987319222330741), .int .u64 (Go.bits .xor .u64 k1 7237128888997146477), .int .u64 (Go.bits .xor .u64 k0 7816392313619706465), .int .u64 (Go.bits .xor .u64 k1 8387220255154660723)] 64 (0, 0)) := by
      show (w.heap.push _)[w.heap.size]? = _
      rw [Array.getElem?_push_size]
    unfold St4 St
    rw [e]
    rw [show Go.bits .xor .u64 k0 8317987319222330741 = _ from X.out.1, show Go.bits .xor .u64 k1 7237128888997146477 = _ from X.out.2.1, show Go.bits .xor .u64 k0 7816392313619706465 = _ from X.out.2.2.1, show Go.bits .xor .u64 k1 8387220255154660723 = _ from X.out.2.2.2]
    rfl)
  have B0 := Lib.hid (show Below b w W0 by rw [q0, hb]; exact (Below.refl _ w).alloc (Nat.le_refl _) _)
  have HBe := Lib.hid hb
  clear q0 hb X
  obtain ⟨A, hA⟩ : ∃ A, A = absTo (initN k0 k1) s.data.toList := ⟨_, rfl⟩
  have HA := Lib.hid hA
  clear hA
  go_loopw [8, 21] (fun m i wr => ∃ k : Nat, k ≤ s.size ∧ i = .int .i64 k ∧ m = .int .u64 ((A k).2 : Nat) ∧ (St4 wr b (A k).1 ∧ Lt4 (A k).1 ∧ (A k).2 < M64 ∧ Only b W0 wr)) (fun _ i _ => s.size - (intOf i).toNat)
  case atStart => exact ⟨0, Nat.zero_le _, rfl, by rw [HA.out]; rfl, by rw [HA.out]; exact S0.out, by rw [HA.out]; exact HI.out, by rw [HA.out]; exact zero_lt, Only.refl _ _⟩
  case round =>
    obtain ⟨k, hk, rfl, rfl, hh⟩ := hrel
    have HH := Lib.hid hh
    clear hh
    have hm := HH.out.2.2.1
    generalize hmm : (A k).2 = m at *
    have HM := Lib.hid hmm
    clear hmm
    rcases Nat.lt_or_ge k s.size with hlt | hge
    · have HB := Lib.hid (byte_or m s k hm hlt)
      by_cases h7 : k % 8 = 7
      · have t7 : ((k : Int) % 8 == 7) = true := beq_iff_eq.2 (by omega)
        have HE := Lib.hid (absTo_end (initN k0 k1) s.data.toList k h7)
        have B7 := HB.out 56
        rw [show (2 : Int) ^ 56 = 72057594037927936 from rfl] at B7
        have HB7 := Lib.hid B7
        clear B7
        go_wp2_with fail
        rw [HB7.out]
        refine (mix_any b _ _ _ HH.out.2.1 (or_lt _ _ hm (Nat.mod_lt _ zero_lt)) HH.out.1).mono ?_
        rintro e w2 ⟨rfl, hh2⟩
        have H2 := Lib.hid hh2
        clear hh2
        go_wp2
        go_roundw
        case rel =>
          have R : A (k + 1) = (mixN (A k).1 (m ||| (s.data.toList.getD k 0).toNat * 2 ^ 56 % M64), 0) := by
            rw [HA.out, HE.out, ← HA.out, HM.out, h7]
          refine ⟨k + 1, by omega, by go_num, by rw [R]; rfl, ?_⟩
          rw [R]
          exact ⟨H2.out.1, H2.out.2.1, zero_lt, HH.out.2.2.2.trans H2.out.2.2⟩
        case measure => simp [intOf]; omega
      · have t7 : ((k : Int) % 8 == 7) = false := beq_eq_false_iff_ne.2 (by omega)
        have HE := Lib.hid (absTo_mid (initN k0 k1) s.data.toList k h7)
        go_wp2
        rw [HB.out]
        go_roundw
        case rel =>
          have R : A (k + 1) = ((A k).1, m ||| (s.data.toList.getD k 0).toNat * 2 ^ (8 * (k % 8)) % M64) := by
            rw [HA.out, HE.out, ← HA.out, HM.out]
          refine ⟨k + 1, by omega, by go_num, by rw [R], ?_⟩
          rw [R]
          exact ⟨HH.out.1, HH.out.2.1, or_lt _ _ hm (Nat.mod_lt _ zero_lt), HH.out.2.2.2⟩
        case measure => simp [intOf]; omega
    · obtain rfl : k = s.size := by omega
      have HT := Lib.hid (size_or m s hm hs)
      go_wp2_with fail
      rw [HT.out]
      refine (mix_any b _ _ _ HH.out.2.1 (or_lt _ _ hm (Nat.mod_lt _ zero_lt)) HH.out.1).mono ?_
      rintro e w2 ⟨rfl, hh2⟩
      have H2 := Lib.hid hh2
      clear hh2
      obtain ⟨u, hu⟩ : ∃ u, u = mixN (A s.size).1 (m ||| s.size * 2 ^ 56 % M64) := ⟨_, rfl⟩
      rw [← hu] at H2
      have HU := Lib.hid hu
      clear hu
      obtain ⟨u0, u1, u2, u3⟩ := u
      have g2 : u2 < M64 := H2.out.2.1.2.2.1
      have SU := Lib.hid (show St w2 b u0 u1 u2 u3 from H2.out.1)
      obtain ⟨c0, c1, c2, c3, f0, f1, f2, f3⟩ := SU.out.c
      have x2 := Lib.hid (show Go.bits .xor .u64 (u2 : Int) 255 = ((u2 ^^^ 255 : Nat) : Int) from xor_nat u2 255 g2 (by decide))
      go_wp2
      rw [x2.out]
      obtain ⟨W2, q2⟩ : ∃ W, W = w2.setCell ⟨b, 2, none⟩ (.int .u64 ((u2 ^^^ 255 : Nat) : Int)) := ⟨_, rfl⟩
      rw [← q2]
      obtain ⟨z, hz⟩ : ∃ z, z = u2 ^^^ 255 := ⟨_, rfl⟩
      have gz : z < M64 := by rw [hz]; exact xor_lt _ _ g2 (by decide)
      have S2 := Lib.hid (show St4 W2 b (u0, u1, z, u3) by rw [q2, hz]; exact SU.out.set2 _ 0)
      have O2 := Lib.hid (show Only b w2 W2 by rw [q2]; exact Only.set w2 b 2 _ 0)
      have L2 := Lib.hid (show Lt4 (u0, u1, z, u3) from ⟨H2.out.2.1.1, H2.out.2.1.2.1, gz, H2.out.2.1.2.2.2⟩)
      have HZ := Lib.hid hz
      clear hz q2 c0 c1 c2 c3 f0 f1 f2 f3
      go_loopw [51] (fun i wr2 => ∃ k : Nat, k ≤ 4 ∧ i = .int .i64 k ∧ (St4 wr2 b (rnds k (u0, u1, z, u3)) ∧ Lt4 (rnds k (u0, u1, z, u3)) ∧ Only b W2 wr2)) (fun i _ => 4 - (intOf i).toNat)
      case atStart => exact ⟨0, Nat.zero_le _, rfl, S2.out, L2.out, Only.refl _ _⟩
      case round =>
        obtain ⟨k, hk, rfl, hh⟩ := hrel
        have HH3 := Lib.hid hh
        clear hh
        rcases Nat.lt_or_ge k 4 with hlt | hge
        · go_wp2_with (go_at_call 28; refine (round4 b _ _ HH3.out.2.1 HH3.out.1).mono ?_; rintro e w3 ⟨rfl, hh2⟩; have H3 := Lib.hid hh2; clear hh2)
          go_roundw
          case rel => exact ⟨k + 1, by omega, by go_num, H3.out.1, H3.out.2.1, HH3.out.2.2.trans H3.out.2.2⟩
          case measure => simp [intOf]; omega
        · obtain rfl : k = 4 := by omega
          obtain ⟨t, ht⟩ : ∃ t, t = rnds 4 (u0, u1, z, u3) := ⟨_, rfl⟩
          rw [← ht] at HH3
          have HT2 := Lib.hid ht
          clear ht
          obtain ⟨t0, t1, t2, t3⟩ := t
          obtain ⟨p0, p1, p2, p3⟩ := HH3.out.2.1
          have ST := Lib.hid (show St _ b t0 t1 t2 t3 from HH3.out.1)
          obtain ⟨c0, c1, c2, c3, f0, f1, f2, f3⟩ := ST.out.c
          go_wp2
          repeat (go_quiet (fail); try go_wp2)
          go_ret
          have R : sumN k0 k1 s.data.toList = t0 ^^^ t1 ^^^ t2 ^^^ t3 := by
            simp only [sumN]
            have hl : s.data.toList.length = s.size := by simp
            rw [hl, ← HA.out, HM.out, ← HU.out, ← HZ.out, ← HT2.out]
            rfl
          refine ⟨congrArg Ending.returned (congrArg (Value.int IntKind.u64) ?_), ?_⟩
          · rw [R, xor_nat t0 t1 p0 p1, xor_nat _ t2 (xor_lt _ _ p0 p1) p2, xor_nat _ t3 (xor_lt _ _ (xor_lt _ _ p0 p1) p2) p3]
          · rw [← HBe.out]
            have hf := (((HH.out.2.2.2.trans H2.out.2.2).trans O2.out).trans HH3.out.2.2).below
            first
              | exact B0.out.trans hf
              | exact below_drewN (B0.out.trans hf) _

end Go.Proofs.Ytjlhpnnkhiojfaa.HSip
