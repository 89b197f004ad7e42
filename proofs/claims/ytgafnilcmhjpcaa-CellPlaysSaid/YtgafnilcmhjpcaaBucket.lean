/- Contracts of the package bucket, for any numbers of bits and any numbers of 64 bits, walked by hand where closures are called. No conditions but the ranges of the kinds. -/
import Derived.Test.YtgafnilcmhjpcaaProg
import Derived.WalkKit
import Derived.WalkSpells
import Derived.WalkLawsBesides
import Derived.Deep.QuietTactic
import Derived.BigQuiet
import Derived.Lib.Strings
import Derived.Lib.Slices
import Derived.Lib.BitFns
import Derived.Lib.Small
import Derived.Lib.Walk
import Derived.Lib.Hide
import Derived.IntWalk
import Derived.Below
import Derived.OneCell
import Derived.RegionCalls
import Derived.Deep.RegionWith
import Derived.Deep.CutBlock
import Derived.Deep.DeepCutAuto
namespace Go.Proofs.Ytgafnilcmhjpcaa.HBucket
open Go.RowKit

theorem tab_bit (i : Int) (h0 : 0 ≤ i) (h1 : i < 256) (h : i.toNat < Lib.len8tab.size) : ((Lib.len8tab[i.toNat]'h).toNat : Int) = Lib.bitLen i.toNat := by
  rw [← Lib.len8_of i h0 (by omega)]
  simp only [Lib.len8, ByteArray.getElem?_lt' _ _ h, Option.getD_some]

theorem wrap_two (k b : Nat) (hk : k ≤ 56) (hb : b ≤ 8) : wrap64 ((k : Int) + wrap64 (b : Int)) = ((k + b : Nat) : Int) := by
  unfold wrap64
  omega

theorem bit_step (n : Nat) (y : Int) (k : Nat) (h1 : n < 18446744073709551616) (hy : y = ((n / 2 ^ k : Nat) : Int)) (hlo : 1 ≤ y) (hhi : y < 256) (h : y.toNat < Lib.len8tab.size) (c : Int) (hc : c = (k : Int)) (hk : k ≤ 56) :
    wrap64 (c + wrap64 ((Lib.len8tab[y.toNat]'h).toNat : Int)) = (Lib.bitLen n : Int) := by
  rw [tab_bit y (by omega) hhi h]
  have l := Lib.bitLen_le8' y (by omega) (by omega)
  have e : y.toNat = n / 2 ^ k := by rw [hy]; exact Int.toNat_natCast (n / 2 ^ k)
  have hp : 2 ^ k ≤ n := by
    refine Nat.le_of_not_lt fun hlt => ?_
    rw [Nat.div_eq_of_lt hlt] at e
    omega
  have s := Lib.bitLen_shift k n hp h1
  rw [s, ← e, hc]
  exact wrap_two _ _ hk l

theorem bit_small (x : Int) (h0 : 0 ≤ x) (hhi : x < 256) (h : x.toNat < Lib.len8tab.size) :
    wrap64 (wrap64 ((Lib.len8tab[x.toNat]'h).toNat : Int)) = (Lib.bitLen x.toNat : Int) := by
  rw [tab_bit x h0 hhi h]
  have l := Lib.bitLen_le8' x (by omega) (by omega)
  unfold wrap64
  omega

set_option maxHeartbeats 4000000 in
set_option maxRecDepth 100000 in
theorem len64_any (x : Int) (w : World) (h0 : 0 ≤ x) (h1 : x ≤ 18446744073709551615) :
    Calls Try.prog 92 #[.int .u64 x] w fun e w' => e = .returned (.int .i64 (Lib.bitLen x.toNat)) ∧ w' = w := by
  go_enter Try.func92, Try.ntmps92
  go_wp2
  all_goals (try (exfalso; rename_i hno; have hz := Lib.len8tab_size; rw [hz] at hno; omega))
  all_goals (go_ret; refine ⟨congrArg Ending.returned (congrArg (Value.int IntKind.i64) ?_), rfl⟩)
  all_goals first
    | exact bit_small _ h0 (by omega) _
    | exact bit_step x.toNat _ 8 (by omega) (by omega) (by omega) (by omega) _ _ (by omega) (by omega)
    | exact bit_step x.toNat _ 16 (by omega) (by omega) (by omega) (by omega) _ _ (by omega) (by omega)
    | exact bit_step x.toNat _ 24 (by omega) (by omega) (by omega) (by omega) _ _ (by omega) (by omega)
    | exact bit_step x.toNat _ 32 (by omega) (by omega) (by omega) (by omega) _ _ (by omega) (by omega)
    | exact bit_step x.toNat _ 40 (by omega) (by omega) (by omega) (by omega) _ _ (by omega) (by omega)
    | exact bit_step x.toNat _ 48 (by omega) (by omega) (by omega) (by omega) _ _ (by omega) (by omega)
    | exact bit_step x.toNat _ 56 (by omega) (by omega) (by omega) (by omega) _ _ (by omega) (by omega)

/-- The greatest power below: how many bits. -/
theorem lt_two_pow_bitLen : ∀ (f x : Nat), x < 2 ^ f → x < 2 ^ Lib.bitLenAux f x
  | 0, x, h => by simpa [Lib.bitLenAux] using h
  | f + 1, x, h => by
    unfold Lib.bitLenAux
    by_cases h0 : x = 0
    · subst h0; simp
    · have := lt_two_pow_bitLen f (x / 2) (by rw [Nat.pow_succ] at h; omega)
      simp only [h0, if_false]
      rw [Nat.add_comm, Nat.pow_succ]
      omega

theorem bitLen_lt (x : Nat) (h : x < 18446744073709551616) : x < 2 ^ Lib.bitLen x := lt_two_pow_bitLen 64 x h

/-- The bucket of how far a number is from 0. -/
def ofN (b m : Nat) : Nat := (Lib.bitLen m - 1 - b) * 2 ^ b + m / 2 ^ (Lib.bitLen m - 1 - b)

theorem div_small (b m : Nat) (hb : b ≤ 4) (hm : m < 18446744073709551616) : m / 2 ^ (Lib.bitLen m - 1 - b) < 32 := by
  have h := bitLen_lt m hm
  rw [Nat.div_lt_iff_lt_mul (Nat.two_pow_pos _)]
  refine Nat.lt_of_lt_of_le h ?_
  rw [show (32 : Nat) = 2 ^ 5 from rfl, ← Nat.pow_add]
  exact Nat.pow_le_pow_right (by decide) (by omega)

theorem ofN_lt (b m : Nat) (hb : b ≤ 4) (hm : m < 18446744073709551616) : ofN b m < 1056 := by
  have h1 := div_small b m hb hm
  have h2 : Lib.bitLen m ≤ 64 := Lib.bitLen_le _ _ (by omega) hm
  have h3 : 2 ^ b ≤ 2 ^ 4 := Nat.pow_le_pow_right (by decide) hb
  have h4 : (Lib.bitLen m - 1 - b) * 2 ^ b ≤ 64 * 2 ^ 4 := Nat.mul_le_mul (by omega) h3
  unfold ofN
  omega

theorem of_eq (many m : Int) (bl : Nat) (h0 : 0 ≤ many) (h4 : many ≤ 4) (hm : 0 ≤ m) (hm2 : m ≤ 18446744073709551615) (hbl : Lib.bitLen m.toNat = bl) :
    wrap64 (wrap64 (max ((bl : Int) - 1 - many) 0 * 2 ^ many.toNat) + wrap64 (m / 2 ^ (max ((bl : Int) - 1 - many) 0).toNat)) = (ofN many.toNat m.toNat : Int) := by
  obtain ⟨b, rfl⟩ := Int.eq_ofNat_of_zero_le h0
  obtain ⟨n, rfl⟩ := Int.eq_ofNat_of_zero_le hm
  simp only [Int.toNat_natCast] at *
  have e : max ((bl : Int) - 1 - (b : Int)) 0 = ((bl - 1 - b : Nat) : Int) := by omega
  have hn : n < 18446744073709551616 := by omega
  have s := div_small b n (by omega) hn
  have t := ofN_lt b n (by omega) hn
  rw [e, Int.toNat_natCast]
  unfold ofN at *
  rw [hbl] at *
  have q1 : ((n : Int) / 2 ^ (bl - 1 - b)) = ((n / 2 ^ (bl - 1 - b) : Nat) : Int) := by push_cast; rfl
  have q2 : (((bl - 1 - b : Nat) : Int) * 2 ^ b) = (((bl - 1 - b) * 2 ^ b : Nat) : Int) := by push_cast; rfl
  rw [q1, q2]
  generalize n / 2 ^ (bl - 1 - b) = p at *
  generalize (bl - 1 - b) * 2 ^ b = q at *
  clear hm hm2 hn hbl e q1 q2
  unfold wrap64
  omega

set_option maxHeartbeats 400000 in
theorem of_any (many m : Int) (w : World) (h0 : 0 ≤ many) (h4 : many ≤ 4) (hm : 0 ≤ m) (hm2 : m ≤ 18446744073709551615) :
    Calls Try.prog 78 #[.int .i64 many, .int .u64 m] w fun e w' => e = .returned (.int .i64 (ofN many.toNat m.toNat)) ∧ ∃ n, w' = w.drewN n := by
  have hb : Lib.bitLen m.toNat ≤ 64 := Lib.bitLen_le _ _ (by omega) (by omega)
  generalize hbl : Lib.bitLen m.toNat = bl at *
  have Hbl := Lib.hid hbl
  clear hbl
  go_enter Try.func78, Try.ntmps78
  go_wp2_with (go_at_call 92; refine (len64_any _ _ (by omega) (by omega)).mono ?_; rintro e w' ⟨rfl, rfl⟩; rw [Hbl.out])
  go_quiet (fail)
  go_wp2
  go_ret
  exact ⟨congrArg Ending.returned (congrArg (Value.int IntKind.i64) (of_eq many m bl h0 h4 hm hm2 Hbl.out)), _, rfl⟩



/-- may, where there may be so many bits: what is done is done. -/
theorem may_yes (many : Int) (f : FuncId) (cs : Array Value) (w : World) (R : World → Prop) (h0 : 0 ≤ many) (h4 : many ≤ 4)
    (hf : Sem.run Try.prog (callFunc f cs) w = .ok (.enter f cs) w)
    (hdo : Calls Try.prog f cs w fun e w' => e = .returned (.tuple #[]) ∧ R w') :
    Calls Try.prog 76 #[.int .i64 many, .func (.func f) #[] cs] w fun e w' => e = .returned (.bool true) ∧ R w' := by
  have H := Lib.hid hdo
  clear hdo
  go_enter Try.func76, Try.ntmps76
  go_wp2_with fail
  refine H.out.mono ?_
  rintro e w' ⟨rfl, hr⟩
  have HR := Lib.hid hr
  clear hr
  go_wp2
  go_ret
  exact ⟨rfl, HR.out⟩

theorem may_no (many : Int) (v : Value) (w : World) (h : many < 0 ∨ 4 < many) :
    Calls Try.prog 76 #[.int .i64 many, v] w fun e w' => e = .returned (.bool false) ∧ w' = w := by
  rcases h with h | h
  · go_enter Try.func76, Try.ntmps76
    go_wp2
    go_ret
    exact ⟨rfl, rfl⟩
  · have h' : 0 ≤ many := by omega
    have h4 : decide (many ≤ 4) = false := by simp; omega
    go_enter Try.func76, Try.ntmps76
    go_wp2
    go_ret
    exact ⟨rfl, rfl⟩

theorem far_any (n : Int) (w : World) (h0 : -9223372036854775808 ≤ n) (h1 : n ≤ 9223372036854775807) :
    Calls Try.prog 79 #[.int .i64 n] w fun e w' => e = .returned (.int .u64 n.natAbs) ∧ w' = w := by
  by_cases h : n < 0
  · go_enter Try.func79, Try.ntmps79
    go_wp2
    go_ret
    refine ⟨congrArg Ending.returned (congrArg (Value.int IntKind.u64) ?_), rfl⟩
    simp only [IntKind.wrap, IntKind.signed, IntKind.bits, Bool.false_and, Bool.false_eq_true, if_false]
    omega
  · go_enter Try.func79, Try.ntmps79
    go_wp2
    go_ret
    refine ⟨congrArg Ending.returned (congrArg (Value.int IntKind.u64) ?_), rfl⟩
    omega

def sgn (n : Int) (m : Nat) : Int := if n < 0 then -(m : Int) else m

theorem Below.drewN {B : Nat} {a w : World} (h : Below B a w) (n : Nat) : Below B a (w.drewN n) := ⟨h.os, h.tape, h.output, h.size, h.block⟩

theorem cell_set {w : World} {p : Addr} {u v : Value} (h : w.cell? p = some u) : (w.setCell p v).cell? p = some v := World.cell?_setCell_same w p v h

theorem cell_new {w : World} {c : Array Value} {t : TypeId} {b i : Nat} (h : b = w.heap.size) : (w.alloc (.cells c t)).cell? ⟨b, i, none⟩ = c[i]? := by
  subst h; exact World.cell?_alloc_new w c t i

theorem frozen_new {w : World} {c : Array Value} {t : TypeId} {b i : Nat} (h : b = w.heap.size) : (w.alloc (.cells c t)).frozen? ⟨b, i, none⟩ = false := by
  subst h; exact World.frozen?_alloc_new w c t i

theorem cell3 (w : World) (x y z : Value) (t u v : TypeId) :
    (((w.alloc (.cells #[x] t)).alloc (.cells #[y] u)).alloc (.cells #[z] v)).cell? ⟨w.heap.size, 0, none⟩ = some x ∧
    (((w.alloc (.cells #[x] t)).alloc (.cells #[y] u)).alloc (.cells #[z] v)).cell? ⟨w.heap.size + 1, 0, none⟩ = some y ∧
    (((w.alloc (.cells #[x] t)).alloc (.cells #[y] u)).alloc (.cells #[z] v)).cell? ⟨w.heap.size + 1 + 1, 0, none⟩ = some z ∧
    (((w.alloc (.cells #[x] t)).alloc (.cells #[y] u)).alloc (.cells #[z] v)).frozen? ⟨w.heap.size + 1 + 1, 0, none⟩ = false := by
  refine ⟨?_, ?_, ?_, ?_⟩
  · rw [World.cell?_alloc_lt _ _ _ (by simp; omega), World.cell?_alloc_lt _ _ _ (by simp), cell_new rfl]; rfl
  · rw [World.cell?_alloc_lt _ _ _ (by simp), cell_new (by simp)]; rfl
  · rw [cell_new (by simp)]; rfl
  · rw [frozen_new (by simp)]

theorem neg_eq (many n : Int) (h0 : 0 ≤ many) (h4 : many ≤ 4) (hn0 : -9223372036854775808 ≤ n) (hn1 : n ≤ 9223372036854775807) (h : n < 0) : wrap64 (-(ofN many.toNat n.natAbs : Int)) = sgn n (ofN many.toNat n.natAbs) := by
  have := ofN_lt many.toNat n.natAbs (by omega) (by omega)
  unfold sgn
  rw [if_pos h]
  unfold wrap64
  omega

theorem pos_eq (many n : Int) (h : 0 ≤ n) : (ofN many.toNat n.natAbs : Int) = sgn n (ofN many.toNat n.natAbs) := by
  unfold sgn
  rw [if_neg (by omega)]

set_option maxHeartbeats 400000 in
theorem Of1_any (b : Nat) (many n x : Int) (w : World) (h0 : 0 ≤ many) (h4 : many ≤ 4) (hn0 : -9223372036854775808 ≤ n) (hn1 : n ≤ 9223372036854775807)
    (c0 : w.cell? ⟨b, 0, none⟩ = some (.int .i64 many)) (c1 : w.cell? ⟨b + 1, 0, none⟩ = some (.int .i64 n)) (c2 : w.cell? ⟨b + 1 + 1, 0, none⟩ = some (.int .i64 x))
    (f2 : w.frozen? ⟨b + 1 + 1, 0, none⟩ = false) :
    Calls Try.prog 77 #[.pointer (some ⟨b, 0, none⟩), .pointer (some ⟨b + 1, 0, none⟩), .pointer (some ⟨b + 1 + 1, 0, none⟩)] w fun e w' => e = .returned (.tuple #[]) ∧
      (w'.cell? ⟨b + 1 + 1, 0, none⟩ = some (.int .i64 (sgn n (ofN many.toNat n.natAbs))) ∧ w'.frozen? ⟨b + 1 + 1, 0, none⟩ = false ∧ Below b w w') := by
  go_enter Try.func77, Try.ntmps77
  go_wp2
  go_region_with (first
    | (go_at_call 79; refine (far_any n _ hn0 hn1).mono ?_; rintro e w' ⟨rfl, rfl⟩)
    | (go_at_call 78; refine (of_any many _ _ h0 h4 (by omega) (by omega)).mono ?_; rintro e w' ⟨rfl, nq, rfl⟩))
  all_goals
    go_wp2
    all_goals
      have c2' : ∀ k, (w.drewN k).cell? ⟨b + 1 + 1, 0, none⟩ = some (.int .i64 x) := fun _ => c2
      go_end0
      refine ⟨rfl, ?_, ?_, ?_⟩
      · rename_i hn
        first
          | (rw [cell_set (cell_set (c2' _)), neg_eq many n h0 h4 hn0 hn1 hn]; done)
          | (rw [cell_set (c2' _), pos_eq many n hn]; done)
      · simpa using f2
      · first
          | exact (((Below.drewN (Below.refl b w) _).setCell (by simp; omega) _).setCell (by simp; omega) _)
          | exact ((Below.drewN (Below.refl b w) _).setCell (by simp; omega) _)

set_option maxHeartbeats 400000 in
theorem Of_yes (many n : Int) (w : World) (h0 : 0 ≤ many) (h4 : many ≤ 4) (hn0 : -9223372036854775808 ≤ n) (hn1 : n ≤ 9223372036854775807) :
    Calls Try.prog 59 #[.int .i64 many, .int .i64 n] w fun e w' => e = .returned (.tuple #[.int .i64 (sgn n (ofN many.toNat n.natAbs)), .bool true]) ∧ Below w.heap.size w w' := by
  have HC := Lib.hid (cell3 w (.int .i64 many) (.int .i64 n) (.int .i64 0) (3) (2) (3))
  go_enter Try.func59, Try.ntmps59
  go_wp2_with fail
  refine (may_yes many (77) _ _ _ h0 h4 (by kernel_rfl) (Of1_any w.heap.size many n 0 _ h0 h4 hn0 hn1 HC.out.1 HC.out.2.1 HC.out.2.2.1 HC.out.2.2.2)).mono ?_
  rintro e w1 ⟨rfl, hc, hf, hb⟩
  have HB := Lib.hid hb
  clear hb
  go_wp2
  refine bodyPost_ret (v := .tuple #[.int .i64 (sgn n (ofN many.toNat n.natAbs)), .bool true]) (by simp [results, Try.results59, go_sem, cell_set hc]) rfl ⟨rfl, ?_⟩
  exact ((((Below.refl _ w).alloc (Nat.le_refl _) _).alloc (by simp) _).alloc (by simp; omega) _ |>.trans HB.out).setCell (by simp; omega) _

set_option maxHeartbeats 400000 in
theorem Of_no (many n : Int) (w : World) (h : many < 0 ∨ 4 < many) :
    Calls Try.prog 59 #[.int .i64 many, .int .i64 n] w fun e w' => e = .returned (.tuple #[.int .i64 0, .bool false]) ∧ Below w.heap.size w w' := by
  have HC := Lib.hid (cell3 w (.int .i64 many) (.int .i64 n) (.int .i64 0) (3) (2) (3))
  go_enter Try.func59, Try.ntmps59
  go_wp2_with fail
  refine (may_no many _ _ h).mono ?_
  rintro e w1 ⟨rfl, rfl⟩
  go_wp2
  refine bodyPost_ret (v := .tuple #[.int .i64 0, .bool false]) (by simp [results, Try.results59, go_sem]) rfl ⟨rfl, ?_⟩
  exact (((Below.refl _ w).alloc (Nat.le_refl _) _).alloc (by simp) _).alloc (by simp; omega) _


/-- The greatest bucket. -/
def mostN (b : Nat) : Nat := ofN b 9223372036854775807

theorem of_max (many : Int) (w : World) (h0 : 0 ≤ many) (h4 : many ≤ 4) :
    Calls Try.prog 78 #[.int .i64 many, .int .u64 9223372036854775807] w fun e w' => e = .returned (.int .i64 (mostN many.toNat)) ∧ ∃ n, w' = w.drewN n :=
  (of_any many 9223372036854775807 w h0 h4 (by omega) (by omega)).mono fun _ _ h => h

theorem most_lt (b : Nat) (hb : b ≤ 4) : mostN b < 1056 := ofN_lt b 9223372036854775807 hb (by omega)

set_option maxHeartbeats 400000 in
theorem Most1_any (b : Nat) (many x : Int) (w : World) (h0 : 0 ≤ many) (h4 : many ≤ 4)
    (c0 : w.cell? ⟨b, 0, none⟩ = some (.int .i64 many)) (c1 : w.cell? ⟨b + 1, 0, none⟩ = some (.int .i64 x))
    (f1 : w.frozen? ⟨b + 1, 0, none⟩ = false) :
    Calls Try.prog 100 #[.pointer (some ⟨b, 0, none⟩), .pointer (some ⟨b + 1, 0, none⟩)] w fun e w' => e = .returned (.tuple #[]) ∧
      (w'.cell? ⟨b + 1, 0, none⟩ = some (.int .i64 (mostN many.toNat)) ∧ w'.frozen? ⟨b + 1, 0, none⟩ = false ∧ Below b w w') := by
  have c1' : ∀ k, (w.drewN k).cell? ⟨b + 1, 0, none⟩ = some (.int .i64 x) := fun _ => c1
  go_enter Try.func100, Try.ntmps100
  go_wp2_with (go_at_call 78; refine (of_max many _ h0 h4).mono ?_; rintro e w' ⟨rfl, nq, rfl⟩)
  go_end0
  refine ⟨rfl, ?_, ?_, ?_⟩
  · rw [cell_set (c1' _)]
  · simpa using f1
  · exact (Below.drewN (Below.refl b w) _).setCell (by simp) _

theorem cell2 (w : World) (x y : Value) (t u : TypeId) :
    ((w.alloc (.cells #[x] t)).alloc (.cells #[y] u)).cell? ⟨w.heap.size, 0, none⟩ = some x ∧
    ((w.alloc (.cells #[x] t)).alloc (.cells #[y] u)).cell? ⟨w.heap.size + 1, 0, none⟩ = some y ∧
    ((w.alloc (.cells #[x] t)).alloc (.cells #[y] u)).frozen? ⟨w.heap.size + 1, 0, none⟩ = false := by
  refine ⟨?_, ?_, ?_⟩
  · rw [World.cell?_alloc_lt _ _ _ (by simp), cell_new rfl]; rfl
  · rw [cell_new (by simp)]; rfl
  · rw [frozen_new (by simp)]

set_option maxHeartbeats 400000 in
theorem Most_yes (many : Int) (w : World) (h0 : 0 ≤ many) (h4 : many ≤ 4) :
    Calls Try.prog 96 #[.int .i64 many] w fun e w' => e = .returned (.int .i64 (mostN many.toNat)) ∧ Below w.heap.size w w' := by
  have HC := Lib.hid (cell2 w (.int .i64 many) (.int .i64 (-1)) (3) (3))
  go_enter Try.func96, Try.ntmps96
  go_wp2_with fail
  refine (may_yes many (100) _ _ _ h0 h4 (by kernel_rfl) (Most1_any w.heap.size many (-1) _ h0 h4 HC.out.1 HC.out.2.1 HC.out.2.2)).mono ?_
  rintro e w1 ⟨rfl, hc, hf, hb⟩
  have HB := Lib.hid hb
  clear hb
  go_wp2
  go_ret
  refine ⟨rfl, ?_⟩
  exact (((Below.refl _ w).alloc (Nat.le_refl _) _).alloc (by simp) _).trans HB.out

set_option maxHeartbeats 400000 in
theorem Most_no (many : Int) (w : World) (h : many < 0 ∨ 4 < many) :
    Calls Try.prog 96 #[.int .i64 many] w fun e w' => e = .returned (.int .i64 (-1)) ∧ Below w.heap.size w w' := by
  go_enter Try.func96, Try.ntmps96
  go_wp2_with fail
  refine (may_no many _ _ h).mono ?_
  rintro e w1 ⟨rfl, rfl⟩
  go_wp2
  go_ret
  refine ⟨rfl, ?_⟩
  exact ((Below.refl _ w).alloc (Nat.le_refl _) _).alloc (by simp) _

end Go.Proofs.Ytgafnilcmhjpcaa.HBucket

namespace Go.Proofs.Ytgafnilcmhjpcaa.Print
open Go.RowKit Go.Proofs.Ytgafnilcmhjpcaa.HBucket

/-- A number of 64 bits. -/
def I64 (n : Int) : Prop := -9223372036854775808 ≤ n ∧ n ≤ 9223372036854775807
instance (n : Int) : Decidable (I64 n) := inferInstanceAs (Decidable (_ ∧ _))

def bucket_Of.f (a0 a1 : Int) : Option (Int × Bool) := if I64 a1 then (if 0 ≤ a0 ∧ a0 ≤ 4 then some (sgn a1 (ofN a0.toNat a1.natAbs), true) else some (0, false)) else none
def bucket_Most.f (a0 : Int) : Option Int := if 0 ≤ a0 ∧ a0 ≤ 4 then some (mostN a0.toNat) else some (-1)

theorem bucket_Of.calls (a0 : Int) (a1 : Int) (r1 : Int) (r2 : Bool) (w : World) (h : bucket_Of.f a0 a1 = some (r1, r2)) :
    Calls Try.prog 59 #[.int .i64 a0, .int .i64 a1] w fun e w' => e = .returned (.tuple #[.int .i64 r1, .bool r2]) ∧ Below w.heap.size w w' := by
  unfold bucket_Of.f at h
  by_cases h1 : I64 a1
  · rw [if_pos h1] at h
    by_cases h2 : 0 ≤ a0 ∧ a0 ≤ 4
    · rw [if_pos h2] at h
      obtain ⟨rfl, rfl⟩ := Prod.mk.inj (Option.some.inj h)
      exact Of_yes a0 a1 w h2.1 h2.2 h1.1 h1.2
    · rw [if_neg h2] at h
      obtain ⟨rfl, rfl⟩ := Prod.mk.inj (Option.some.inj h)
      exact Of_no a0 a1 w (by omega)
  · rw [if_neg h1] at h
    cases h

theorem bucket_Most.calls (a0 : Int) (r1 : Int) (w : World) (h : bucket_Most.f a0 = some r1) :
    Calls Try.prog 96 #[.int .i64 a0] w fun e w' => e = .returned (.int .i64 r1) ∧ Below w.heap.size w w' := by
  unfold bucket_Most.f at h
  by_cases h2 : 0 ≤ a0 ∧ a0 ≤ 4
  · rw [if_pos h2] at h
    obtain rfl := Option.some.inj h
    exact Most_yes a0 w h2.1 h2.2
  · rw [if_neg h2] at h
    obtain rfl := Option.some.inj h
    exact Most_no a0 w (by omega)

end Go.Proofs.Ytgafnilcmhjpcaa.Print

namespace Go.Proofs.Ytgafnilcmhjpcaa.HBucket
open Go.RowKit

def eN (b m : Nat) : Nat := m / 2 ^ b - 1
def loN (b m : Nat) : Nat := (m - eN b m * 2 ^ b) * 2 ^ eN b m
def hiN (b m : Nat) : Nat := loN b m + (2 ^ eN b m - 1)
def loZ (b : Nat) (a : Int) : Int := if a < 0 then -(min (hiN b a.natAbs) 9223372036854775808 : Nat) else loN b a.natAbs
def hiZ (b : Nat) (a : Int) : Int := if a < 0 then -(loN b a.natAbs : Nat) else hiN b a.natAbs

def chkB (b m : Nat) : Bool := decide (eN b m ≤ 63) && decide (eN b m * 2 ^ b ≤ m) && decide (loN b m ≤ 9223372036854775808) && decide (hiN b m < 18446744073709551616) && (decide (mostN b < m) || decide (hiN b m ≤ 9223372036854775807))
theorem chkB_all : ((List.range 5).all fun b => (List.range (mostN b + 2)).all fun m => chkB b m) = true := by decide +kernel
theorem chkB_of (b m : Nat) (hb : b ≤ 4) (hm : m ≤ mostN b + 1) : eN b m ≤ 63 ∧ eN b m * 2 ^ b ≤ m ∧ loN b m ≤ 9223372036854775808 ∧ hiN b m < 18446744073709551616 ∧ (m ≤ mostN b → hiN b m ≤ 9223372036854775807) := by
  have h := List.all_eq_true.1 (List.all_eq_true.1 chkB_all b (List.mem_range.2 (by omega))) m (List.mem_range.2 (by omega))
  simp only [chkB, Bool.and_eq_true, Bool.or_eq_true, decide_eq_true_eq] at h
  exact ⟨h.1.1.1.1, h.1.1.1.2, h.1.1.2, h.1.2, fun hl => h.2.resolve_left (by omega)⟩

theorem e_is (many at_ : Int) (h0 : 0 ≤ many) (h4 : many ≤ 4) (hm : at_.natAbs ≤ mostN many.toNat + 1) : max (wrap64 (wrap64 ((at_.natAbs : Int) / 2 ^ many.toNat) - 1)) 0 = (eN many.toNat at_.natAbs : Int) := by
  have q := most_lt many.toNat (by omega)
  generalize at_.natAbs = m at *
  generalize many.toNat = b at *
  have e : ((m : Int) / 2 ^ b) = ((m / 2 ^ b : Nat) : Int) := by push_cast; rfl
  rw [e]
  unfold eN
  have := Nat.div_le_self m (2 ^ b)
  generalize m / 2 ^ b = d at *
  unfold wrap64
  omega

theorem u64_id (x : Int) (h0 : 0 ≤ x) (h1 : x ≤ 18446744073709551615) : IntKind.u64.wrap x = x := by
  simp only [IntKind.wrap, IntKind.signed, IntKind.bits, Bool.false_and, Bool.false_eq_true, if_false]
  omega

theorem lo_eq (b m : Nat) (hm : m ≤ 18446744073709551615) (_h63 : eN b m ≤ 63) (hle : eN b m * 2 ^ b ≤ m) (hlo : loN b m ≤ 9223372036854775808) :
    IntKind.u64.wrap (IntKind.u64.wrap ((m : Int) - IntKind.u64.wrap ((eN b m : Int) * 2 ^ b)) * 2 ^ eN b m) = (loN b m : Int) := by
  have hp := Nat.two_pow_pos (eN b m)
  have hd : m - eN b m * 2 ^ b ≤ loN b m := by unfold loN; exact Nat.le_mul_of_pos_right _ hp
  have q : ((eN b m : Int) * 2 ^ b) = ((eN b m * 2 ^ b : Nat) : Int) := by push_cast; rfl
  rw [q]
  generalize hX : eN b m * 2 ^ b = X at *
  rw [u64_id (X : Int) (by omega) (by omega), u64_id ((m : Int) - X) (by omega) (by omega)]
  have r : ((m : Int) - X) * 2 ^ eN b m = ((loN b m : Nat) : Int) := by
    unfold loN
    rw [hX]
    have : ((m : Int) - X) = ((m - X : Nat) : Int) := by omega
    rw [this]
    push_cast
    rfl
  rw [r]
  exact u64_id _ (by omega) (by omega)

theorem hi_eq (b m : Nat) (h63 : eN b m ≤ 63) (hhi : hiN b m < 18446744073709551616) :
    IntKind.u64.wrap ((loN b m : Int) + IntKind.u64.wrap (IntKind.u64.wrap (2 ^ eN b m) - 1)) = (hiN b m : Int) := by
  have hp := Nat.two_pow_pos (eN b m)
  have hq : 2 ^ eN b m ≤ 2 ^ 63 := Nat.pow_le_pow_right (by decide) h63
  have q : ((2 : Int) ^ eN b m) = ((2 ^ eN b m : Nat) : Int) := by push_cast; rfl
  rw [q]
  unfold hiN at *
  generalize 2 ^ eN b m = p at *
  have hq' : p ≤ 9223372036854775808 := hq
  clear hq
  rw [u64_id (p : Int) (by omega) (by omega), u64_id ((p : Int) - 1) (by omega) (by omega)]
  rw [u64_id _ (by omega) (by omega)]
  omega

theorem fin_neg (b : Nat) (a : Int) (h : a < 0) (hlo : loN b a.natAbs ≤ 9223372036854775808) (hhi : hiN b a.natAbs < 18446744073709551616) :
    wrap64 (-wrap64 (min (hiN b a.natAbs : Int) 9223372036854775808)) = loZ b a ∧ wrap64 (-wrap64 (loN b a.natAbs : Int)) = hiZ b a := by
  unfold loZ hiZ
  rw [if_pos h, if_pos h]
  generalize hiN b a.natAbs = H at *
  generalize loN b a.natAbs = L at *
  clear h
  unfold wrap64
  omega

theorem fin_pos (b : Nat) (a : Int) (h : 0 ≤ a) (hhi : hiN b a.natAbs ≤ 9223372036854775807) :
    wrap64 (loN b a.natAbs : Int) = loZ b a ∧ wrap64 (hiN b a.natAbs : Int) = hiZ b a := by
  unfold loZ hiZ
  rw [if_neg (by omega), if_neg (by omega)]
  have : loN b a.natAbs ≤ hiN b a.natAbs := by unfold hiN; omega
  generalize hiN b a.natAbs = H at *
  generalize loN b a.natAbs = L at *
  clear h
  unfold wrap64
  omega

set_option maxHeartbeats 1000000 in
set_option maxRecDepth 100000 in
theorem Bounds_yes (many at_ : Int) (w : World) (h0 : 0 ≤ many) (h4 : many ≤ 4) (ha0 : -(mostN many.toNat : Int) - 1 ≤ at_) (ha1 : at_ ≤ mostN many.toNat) :
    Calls Try.prog 87 #[.int .i64 many, .int .i64 at_] w fun e w' => e = .returned (.tuple #[.int .i64 (loZ many.toNat at_), .int .i64 (hiZ many.toNat at_), .bool true]) ∧ Below w.heap.size w w' := by
  have hm := most_lt many.toNat (by omega)
  generalize hM : mostN many.toNat = M at *
  have HM := Lib.hid hM
  clear hM
  have t1 : decide (at_ < wrap64 (wrap64 (-(M : Int)) - 1)) = false := by
    unfold wrap64; simp; omega
  have t2 : decide ((M : Int) < at_) = false := by simp; omega
  have t3 : decide (at_ < -(M : Int) - 1) = false := by simp; omega
  go_enter Try.func87, Try.ntmps87
  go_upto_region 6 with (first
    | (go_at_call 96; refine (Most_yes many _ h0 h4).mono ?_; rintro e w1 ⟨rfl, hb⟩; rw [HM.out]; have HB := Lib.hid hb; clear hb)
    | (go_at_call 79; refine (far_any at_ _ (by omega) (by omega)).mono ?_; rintro e w2 ⟨rfl, rfl⟩))
  generalize hE : max (wrap64 (wrap64 ((at_.natAbs : Int) / 2 ^ many.toNat) - 1)) 0 = E
  have hE2 := e_is many at_ h0 h4 (by rw [HM.out]; omega)
  have e0 : 0 ≤ E := by rw [← hE, hE2]; omega
  have e1 : E ≤ 63 := by have := (chkB_of many.toNat at_.natAbs (by omega) (by rw [HM.out]; omega)).1; rw [← hE, hE2]; omega
  have HE2 := Lib.hid hE2
  clear hE2
  have HE := Lib.hid hE
  clear hE
  have q := chkB_of many.toNat at_.natAbs (by omega) (by rw [HM.out]; omega)
  have L := Lib.hid (lo_eq many.toNat at_.natAbs (by omega) q.1 q.2.1 q.2.2.1)
  have H := Lib.hid (hi_eq many.toNat at_.natAbs q.1 q.2.2.2.1)
  have Q := Lib.hid q
  clear q
  have X := Lib.hid (HE.out.symm.trans HE2.out)
  clear HE HE2
  rcases Int.lt_or_le at_ 0 with hn | hn
  · have F := Lib.hid (fin_neg many.toNat at_ hn Q.out.2.2.1 Q.out.2.2.2.1)
    go_wp2
    go_ret3
    refine ⟨?_, (Below.refl _ _).trans HB.out⟩
    rw [X.out]
    simp only [Int.toNat_natCast, L.out, H.out]
    rw [F.out.1, F.out.2]
    rfl
  · have F := Lib.hid (fin_pos many.toNat at_ hn (Q.out.2.2.2.2 (by rw [HM.out]; omega)))
    go_wp2
    go_ret3
    refine ⟨?_, HB.out⟩
    rw [X.out]
    simp only [Int.toNat_natCast, L.out, H.out]
    rw [F.out.1, F.out.2]
    rfl

set_option maxHeartbeats 1000000 in
theorem Bounds_bits (many at_ : Int) (w : World) (h : many < 0 ∨ 4 < many) :
    Calls Try.prog 87 #[.int .i64 many, .int .i64 at_] w fun e w' => e = .returned (.tuple #[.int .i64 0, .int .i64 0, .bool false]) ∧ Below w.heap.size w w' := by
  go_enter Try.func87, Try.ntmps87
  go_wp2_with (go_at_call 96; refine (Most_no many _ h).mono ?_; rintro e w1 ⟨rfl, hb⟩; have HB := Lib.hid hb; clear hb)
  go_ret3
  exact ⟨rfl, HB.out⟩

set_option maxHeartbeats 1000000 in
theorem Bounds_high (many at_ : Int) (w : World) (h0 : 0 ≤ many) (h4 : many ≤ 4) (ha1 : (mostN many.toNat : Int) < at_) :
    Calls Try.prog 87 #[.int .i64 many, .int .i64 at_] w fun e w' => e = .returned (.tuple #[.int .i64 0, .int .i64 0, .bool false]) ∧ Below w.heap.size w w' := by
  have hm := most_lt many.toNat (by omega)
  generalize hM : mostN many.toNat = M at *
  have HM := Lib.hid hM
  clear hM
  have t2 : decide ((M : Int) < at_) = true := by simp; omega
  have t4 : decide ((M : Int) < 0) = false := by simp
  go_enter Try.func87, Try.ntmps87
  go_wp2_with (go_at_call 96; refine (Most_yes many _ h0 h4).mono ?_; rintro e w1 ⟨rfl, hb⟩; rw [HM.out]; have HB := Lib.hid hb; clear hb)
  go_ret3
  exact ⟨rfl, HB.out⟩

set_option maxHeartbeats 1000000 in
theorem Bounds_low (many at_ : Int) (w : World) (h0 : 0 ≤ many) (h4 : many ≤ 4) (ha1 : at_ < -(mostN many.toNat : Int) - 1) :
    Calls Try.prog 87 #[.int .i64 many, .int .i64 at_] w fun e w' => e = .returned (.tuple #[.int .i64 0, .int .i64 0, .bool false]) ∧ Below w.heap.size w w' := by
  have hm := most_lt many.toNat (by omega)
  generalize hM : mostN many.toNat = M at *
  have HM := Lib.hid hM
  clear hM
  have t2 : decide ((M : Int) < at_) = false := by simp; omega
  have t4 : decide ((M : Int) < 0) = false := by simp
  have t1 : decide (at_ < wrap64 (wrap64 (-(M : Int)) - 1)) = true := by
    unfold wrap64; simp; omega
  have t3 : decide (at_ < -(M : Int) - 1) = true := by simp; omega
  go_enter Try.func87, Try.ntmps87
  go_wp2_with (go_at_call 96; refine (Most_yes many _ h0 h4).mono ?_; rintro e w1 ⟨rfl, hb⟩; rw [HM.out]; have HB := Lib.hid hb; clear hb)
  go_ret3
  exact ⟨rfl, HB.out⟩

end Go.Proofs.Ytgafnilcmhjpcaa.HBucket

namespace Go.Proofs.Ytgafnilcmhjpcaa.Print
open Go.RowKit Go.Proofs.Ytgafnilcmhjpcaa.HBucket
def bucket_Bounds.f (a0 a1 : Int) : Option (Int × Int × Bool) :=
  if 0 ≤ a0 ∧ a0 ≤ 4 then (if -(mostN a0.toNat : Int) - 1 ≤ a1 ∧ a1 ≤ mostN a0.toNat then some (loZ a0.toNat a1, hiZ a0.toNat a1, true) else some (0, 0, false)) else some (0, 0, false)
theorem bucket_Bounds.calls (a0 : Int) (a1 : Int) (r1 : Int) (r2 : Int) (r3 : Bool) (w : World) (h : bucket_Bounds.f a0 a1 = some (r1, r2, r3)) :
    Calls Try.prog 87 #[.int .i64 a0, .int .i64 a1] w fun e w' => e = .returned (.tuple #[.int .i64 r1, .int .i64 r2, .bool r3]) ∧ Below w.heap.size w w' := by
  unfold bucket_Bounds.f at h
  by_cases h2 : 0 ≤ a0 ∧ a0 ≤ 4
  · rw [if_pos h2] at h
    by_cases h3 : -(mostN a0.toNat : Int) - 1 ≤ a1 ∧ a1 ≤ mostN a0.toNat
    · rw [if_pos h3] at h
      simp only [Option.some.injEq, Prod.mk.injEq] at h
      obtain ⟨rfl, rfl, rfl⟩ := h
      exact Bounds_yes a0 a1 w h2.1 h2.2 h3.1 h3.2
    · rw [if_neg h3] at h
      simp only [Option.some.injEq, Prod.mk.injEq] at h
      obtain ⟨rfl, rfl, rfl⟩ := h
      by_cases h4 : (mostN a0.toNat : Int) < a1
      · exact Bounds_high a0 a1 w h2.1 h2.2 h4
      · exact Bounds_low a0 a1 w h2.1 h2.2 (by omega)
  · rw [if_neg h2] at h
    simp only [Option.some.injEq, Prod.mk.injEq] at h
    obtain ⟨rfl, rfl, rfl⟩ := h
    exact Bounds_bits a0 a1 w (by omega)
end Go.Proofs.Ytgafnilcmhjpcaa.Print
