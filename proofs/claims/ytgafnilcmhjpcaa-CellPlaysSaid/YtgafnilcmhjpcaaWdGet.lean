/- Sums of 128 bits: Get, walked by hand, with no print's words. Conditions: none. -/
import Derived.Test.YtgafnilcmhjpcaaWdPut
import Derived.Test.YtgafnilcmhjpcaaQTail
import Derived.Laws.StructEq
import Derived.BigRegion
namespace Go.Proofs.Ytgafnilcmhjpcaa.HWide
set_option linter.unusedVariables false
open Go.RowKit

def arr2 (w : World) (b : Nat) (x y : Int) : Prop := w.heap[b]? = some (.cells #[.int .u64 x, .int .u64 y] 134 (0, 0))
theorem arr2.c {w : World} {b : Nat} {x y : Int} (h : arr2 w b x y) : w.cell? ⟨b, 0, none⟩ = some (.int .u64 x) ∧ w.cell? ⟨b, 1, none⟩ = some (.int .u64 y) ∧ w.frozen? ⟨b, 0, none⟩ = false ∧ w.frozen? ⟨b, 1, none⟩ = false := by
  unfold arr2 at h
  simp [World.cell?, World.frozen?, h]
@[go_sem] theorem eqSum (a b c d : Int) (w : World) : (Op.equalIn 10000 43 (.agg #[.int .i64 a, .int .u64 b]) (.agg #[.int .i64 c, .int .u64 d])).run Try.prog w = .ok (a == c && b == d) w := by
  have hS : Try.prog.underlying 43 = some (.struct (Try.prog.fieldsOf 43)) := by kernel_rfl
  rw [show (10000 : Nat) = 9999 + 1 from rfl, run_equalIn_agg w 9999 43 _ _ hS (by kernel_rfl)]
  simp only [Program.fieldsOf, Try.underlying43]
  go_simp
  by_cases h1 : a = c <;> by_cases h2 : b = d <;> simp [h1, h2]
def Z16 : Obj := .cells (Array.replicate 16 (.int .u8 0)) 5
def zero16 : ByteArray := strOfNums (List.replicate 16 0)
theorem mk16 (v : World) : (Instr.makeSlice 79 (.int .i64 16) (.int .i64 16)).run Try.prog v = .ok (.slice (some ⟨v.heap.size, 0, none⟩) 16 16) (v.alloc Z16) := by
  obtain ⟨i, hi, hz, hs, hb⟩ : ∃ i, Try.prog.info? 5 = some i ∧ i.zero = some (.int .u8 0) ∧ i.size = 1 ∧ i.bytes = 1 := by
    refine ⟨(Try.prog.info? 5).get (by kernel_rfl), by kernel_rfl, by kernel_rfl, by kernel_rfl, by kernel_rfl⟩
  have := run_makeSlice v 79 5 i (.int .u8 0) Try.underlying79 hi hz .i64 .i64 16 16 (by decide) (by decide) (by rw [hs]; decide) (by rw [hb]; decide) (by decide)
  rw [hs, show madeCells (Value.int .u8 0).cells (Int.toNat 16 * 1) = Array.replicate 16 (Value.int .u8 0) by kernel_rfl] at this
  exact this
def zeroAt (v : World) (q : Nat) : Prop := v.heap[q]? = some Z16
theorem zeroAt_new (v : World) (q : Nat) (hq : q = v.heap.size) : zeroAt (v.alloc Z16) q := by
  unfold zeroAt
  subst hq
  exact Array.getElem?_push_size
theorem zeroAt_drew (v : World) (q : Nat) : zeroAt v.drew q ↔ zeroAt v q := Iff.rfl
theorem zeroAt_set (v : World) (q b i : Nat) (x : Value) (hb : b < q) : zeroAt (v.setCell ⟨b, i, none⟩ x) q ↔ zeroAt v q := by
  unfold zeroAt at *
  simp only [World.setCell, Array.getElem?_modify, if_neg (show ¬ b = q by omega)]
theorem cv16 (v : World) (q : Nat) (h : zeroAt v q) : (convert 79 9 (.slice (some ⟨q, 0, none⟩) 16 16)).run Try.prog v = .ok (.string zero16) v :=
  run_convert_bytes_arg (P := Try.prog) v 79 5 Try.underlying79 Try.underlying5 q 0 16 16 (List.replicate 16 0) (by simp) (fun i hi => by
    unfold zeroAt at h
    rw [Nat.zero_add]
    have e : (List.replicate 16 (0 : Int)).getD i 0 = 0 := by rw [List.getD_eq_getElem?_getD, List.getElem?_replicate, if_pos hi]; rfl
    rw [e]
    simp only [World.cell?, h, Z16]
    simp [hi]) 9 Try.underlying9

/-- One byte more. -/
def gst (x c : Int) : Int := bits BinOp.or IntKind.u64 (IntKind.u64.wrap (x * 256)) c
def gfold (l : List Int) : Int := l.foldl gst 0
def gHi (s : ByteArray) (k : Nat) : Int := gfold ((bytesOf s).take (min k 8))
def gLo (s : ByteArray) (k : Nat) : Int := gfold (((bytesOf s).drop 8).take (k - 8))
theorem byte_at (s : ByteArray) (k : Nat) (h : k < s.size) : (bytesOf s)[k]? = some (s[k].toNat : Int) := by
  have h1 := drop_byte s k h
  have h2 : ((bytesOf s).drop k)[0]? = some (s[k].toNat : Int) := by rw [h1]; rfl
  rw [List.getElem?_drop] at h2
  exact h2
theorem take_next (l : List Int) (k : Nat) (c : Int) (h : l[k]? = some c) : gfold (l.take (k + 1)) = gst (gfold (l.take k)) c := by
  unfold gfold
  rw [List.take_add_one, h]
  simp [List.foldl_append]
theorem gHi_next (s : ByteArray) (k : Nat) (h : k < 8) (hk : k < s.size) : gHi s (k + 1) = gst (gHi s k) (s[k].toNat : Int) := by
  unfold gHi
  rw [show min (k + 1) 8 = k + 1 by omega, show min k 8 = k by omega]
  exact take_next _ _ _ (byte_at s k hk)
theorem gHi_same (s : ByteArray) (k : Nat) (h : ¬ k < 8) : gHi s (k + 1) = gHi s k := by
  unfold gHi
  rw [show min (k + 1) 8 = 8 by omega, show min k 8 = 8 by omega]
theorem gLo_same (s : ByteArray) (k : Nat) (h : k < 8) : gLo s (k + 1) = gLo s k := by
  unfold gLo
  rw [show k + 1 - 8 = 0 by omega, show k - 8 = 0 by omega]
theorem gLo_next (s : ByteArray) (k : Nat) (h : ¬ k < 8) (hk : k < s.size) : gLo s (k + 1) = gst (gLo s k) (s[k].toNat : Int) := by
  unfold gLo
  rw [show k + 1 - 8 = (k - 8) + 1 by omega]
  refine take_next _ _ _ ?_
  rw [List.getElem?_drop, show 8 + (k - 8) = k by omega]
  exact byte_at s k hk
/-- What Get answers. -/
def getR (s : ByteArray) : (Int × Int) × Bool :=
  if s.size = 16 then ((wrap64 (gHi s 16), gLo s 16), if wrap64 (gHi s 16) = 0 ∧ gLo s 16 = 0 then s.toList == zero16.toList else true) else ((0, 0), false)
theorem getR_no (s : ByteArray) (h : ¬ s.size = 16) : getR s = ((0, 0), false) := by unfold getR; rw [if_neg h]
theorem getR_zero (s : ByteArray) (h : s.size = 16) (h1 : wrap64 (gHi s 16) = 0) (h2 : gLo s 16 = 0) : getR s = ((wrap64 (gHi s 16), gLo s 16), s.toList == zero16.toList) := by unfold getR; rw [if_pos h, if_pos ⟨h1, h2⟩]
theorem getR_yes (s : ByteArray) (h : s.size = 16) (h1 : ¬ (wrap64 (gHi s 16) = 0 ∧ gLo s 16 = 0)) : getR s = ((wrap64 (gHi s 16), gLo s 16), true) := by unfold getR; rw [if_pos h, if_neg h1]
theorem arr2.set0 {w : World} {b : Nat} {x y : Int} (h : arr2 w b x y) (v : Int) : arr2 (w.setCell ⟨b, 0, none⟩ (.int .u64 v)) b v y := by
  unfold arr2 at *
  simp only [World.setCell, Array.getElem?_modify, if_true, h]
  rfl
theorem arr2.set1 {w : World} {b : Nat} {x y : Int} (h : arr2 w b x y) (v : Int) : arr2 (w.setCell ⟨b, 1, none⟩ (.int .u64 v)) b x v := by
  unfold arr2 at *
  simp only [World.setCell, Array.getElem?_modify, if_true, h]
  rfl

theorem Get_no (s : ByteArray) (w : World) (h : ¬ s.size = 16) :
    Calls Try.prog 69 #[.string s] w fun e w' => e = .returned (.tuple #[.agg #[.int .i64 (getR s).1.1, .int .u64 (getR s).1.2], .bool (getR s).2]) ∧ Below w.heap.size w w' := by
  have HG := Lib.hid (getR_no s h)
  have ht : ((s.size : Int) == 16) = false := by rw [beq_eq_false_iff_ne]; omega
  go_enter Try.func69, Try.ntmps69
  go_wp2
  refine bodyPost_ret (v := .tuple #[.agg #[.int .i64 0, .int .u64 0], .bool false]) ?_ rfl ?_
  · simp [results, Try.results69, go_sem]
  · exact ⟨by rw [HG.out], (Below.refl _ _).alloc (Nat.le_refl _) _⟩

set_option maxHeartbeats 1000000 in
theorem Get_yes (s : ByteArray) (w : World) (h : s.size = 16) :
    Calls Try.prog 69 #[.string s] w fun e w' => e = .returned (.tuple #[.agg #[.int .i64 (getR s).1.1, .int .u64 (getR s).1.2], .bool (getR s).2]) ∧ Below w.heap.size w w' := by
  have hw0 : IntKind.i64.wrap 0 = 0 := by decide
  have hw1 : IntKind.i64.wrap 1 = 1 := by decide
  obtain ⟨W0, q0⟩ : ∃ W, W = (w.alloc (.cells #[.int .i64 0, .int .u64 0] 43)).alloc (.cells #[.int .u64 0, .int .u64 0] 134) := ⟨_, rfl⟩
  have S1 := Lib.hid (show two W0 w.heap.size (0, 0) by
    rw [q0]; unfold two
    show ((w.heap.push _).push _)[w.heap.size]? = _
    rw [Array.getElem?_push_lt (by simp), Array.getElem_push_eq])
  have S2 := Lib.hid (show arr2 W0 (w.heap.size + 1) 0 0 by
    rw [q0]; unfold arr2
    show ((w.heap.push _).push _)[w.heap.size + 1]? = _
    rw [show w.heap.size + 1 = (w.heap.push (Obj.cells #[.int .i64 0, .int .u64 0] 43)).size by simp, Array.getElem?_push_size])
  have S3 := Lib.hid (show Below w.heap.size w W0 by rw [q0]; exact ((Below.refl _ _).alloc (Nat.le_refl _) _).alloc (by simp) _)
  have HQ := Lib.hid q0
  clear q0
  go_enter Try.func69, Try.ntmps69
  go_wp2_with fail
  rw [← HQ.out]
  go_loopw [11] (fun i wr => ∃ k : Nat, k ≤ 16 ∧ i = .int .i64 k ∧ two wr w.heap.size (0, 0) ∧ arr2 wr (w.heap.size + 1) (gHi s k) (gLo s k) ∧ Below w.heap.size w wr) (fun i _ => 16 - (intOf i).toNat)
  case atStart => exact ⟨0, by omega, rfl, S1.out, by rw [show gHi s 0 = 0 from rfl, show gLo s 0 = 0 from rfl]; exact S2.out, S3.out⟩
  case round =>
    obtain ⟨k, hk, rfl, ht, ha, hbl⟩ := hrel
    have HT := Lib.hid ht
    have HA := Lib.hid ha
    have HB := Lib.hid hbl
    clear ht ha hbl
    obtain ⟨c0, c1, f0, f1⟩ := HA.out.c
    obtain ⟨x, hx⟩ : ∃ x, x = gHi s k := ⟨_, rfl⟩
    obtain ⟨y, hy⟩ : ∃ y, y = gLo s k := ⟨_, rfl⟩
    rw [← hx] at c0
    rw [← hy] at c1
    have HX := Lib.hid hx
    have HY := Lib.hid hy
    clear hx hy
    rcases Nat.lt_or_ge k 16 with hlt | hge
    · have hlt' : k < s.size := by omega
      have hc0 : 0 ≤ (s[k].toNat : Int) := by omega
      have hc1 : (s[k].toNat : Int) ≤ 255 := by have := s[k].toNat_lt; omega
      by_cases h8 : k < 8
      · have E1 := Lib.hid (gHi_next s k h8 hlt')
        have E2 := Lib.hid (gLo_same s k h8)
        have hq : (k : Int).tdiv 8 = 0 := by rw [Int.tdiv_eq_ediv_of_nonneg (by omega)]; omega
        go_wp2_with fail
        refine QTail.wp_region_drawn_tail 13 (by kernel_rfl) (by kernel_rfl) ?_
        simp only [List.take_succ_cons, List.take_zero]
        repeat (quiet_step (fail))
        refine wpQuiet_nil ?_
        intro _ hw'
        obtain ⟨nq, rfl⟩ := hw'
        simp only [List.drop_succ_cons, List.drop_zero]
        go_wp2
        go_roundw
        case rel =>
          refine ⟨k + 1, by omega, by go_num, (show two (wr.drewN nq) w.heap.size (0, 0) from HT.out).other (by omega), ?_, ((show Below w.heap.size w (wr.drewN nq) from ⟨HB.out.os, HB.out.tape, HB.out.output, HB.out.size, HB.out.block⟩).setCell (by simp) _)⟩
          rw [E1.out, E2.out, HX.out]
          exact (show arr2 (wr.drewN nq) (w.heap.size + 1) (gHi s k) (gLo s k) from HA.out).set0 _
        case measure => simp [intOf]; omega
      · have E1 := Lib.hid (gHi_same s k h8)
        have E2 := Lib.hid (gLo_next s k h8 hlt')
        have hq : (k : Int).tdiv 8 = 1 := by rw [Int.tdiv_eq_ediv_of_nonneg (by omega)]; omega
        go_wp2_with fail
        refine QTail.wp_region_drawn_tail 13 (by kernel_rfl) (by kernel_rfl) ?_
        simp only [List.take_succ_cons, List.take_zero]
        repeat (quiet_step (fail))
        refine wpQuiet_nil ?_
        intro _ hw'
        obtain ⟨nq, rfl⟩ := hw'
        simp only [List.drop_succ_cons, List.drop_zero]
        go_wp2
        go_roundw
        case rel =>
          refine ⟨k + 1, by omega, by go_num, (show two (wr.drewN nq) w.heap.size (0, 0) from HT.out).other (by omega), ?_, ((show Below w.heap.size w (wr.drewN nq) from ⟨HB.out.os, HB.out.tape, HB.out.output, HB.out.size, HB.out.block⟩).setCell (by simp) _)⟩
          rw [E1.out, E2.out, HY.out]
          exact (show arr2 (wr.drewN nq) (w.heap.size + 1) (gHi s k) (gLo s k) from HA.out).set1 _
        case measure => simp [intOf]; omega
    · obtain rfl : k = 16 := by omega
      go_wp2_with fail
      obtain ⟨p, hp⟩ : ∃ p, p = wr.heap.size := ⟨_, rfl⟩
      obtain ⟨W1, hW⟩ : ∃ W, W = wr.alloc (.cells #[.int .i64 (wrap64 x), .int .u64 y] 43) := ⟨_, rfl⟩
      rw [← hW, ← hp]
      obtain ⟨z, hz⟩ : ∃ z, z = wrap64 x := ⟨_, rfl⟩
      rw [← hz] at hW ⊢
      have HZ := Lib.hid (show wrap64 (gHi s 16) = z by rw [hz, HX.out])
      clear hz
      have S1 := Lib.hid (show two W1 p (z, y) by
        rw [hW, hp]
        show (wr.heap.push _)[wr.heap.size]? = _
        rw [Array.getElem?_push_size])
      have S2 := Lib.hid (show two W1 w.heap.size (0, 0) by rw [hW]; exact HT.out.mono ((Below.refl _ _).alloc (Nat.le_refl _) _))
      have hpl : w.heap.size < p := by
        rw [hp]
        have := HA.out
        unfold arr2 at this
        rcases Nat.lt_or_ge (w.heap.size + 1) wr.heap.size with h' | h'
        · omega
        · simp [Array.getElem?_eq_none h'] at this
      have hlt2 : w.heap.size < W1.heap.size := by rw [hW]; simp; omega
      have SB := Lib.hid (show Below w.heap.size w W1 by rw [hW]; exact HB.out.trans ((Below.refl _ _).alloc (by omega) _))
      have HP := Lib.hid hp
      have HW := Lib.hid hW
      clear hp hW c0 c1 f0 f1
      obtain ⟨c0, c1, f0, f1⟩ := S1.out.c
      obtain ⟨d0, d1, g0, g1⟩ := S2.out.c
      have S4 := Lib.hid (S2.out.set (z, y))
      have SB2 := Lib.hid ((SB.out.setCell (p := ⟨w.heap.size, 0, none⟩) (Nat.le_refl _) (.int .i64 z)).setCell (p := ⟨w.heap.size, 1, none⟩) (Nat.le_refl _) (.int .u64 y))
      by_cases hA : z = 0 ∧ y = 0
      case' pos =>
        have HR := Lib.hid (getR_zero s h (by rw [HZ.out]; exact hA.1) (by rw [← HY.out]; exact hA.2))
        obtain ⟨rfl, rfl⟩ := hA
        have M1 := mk16
        have M2 := cv16
        have M3 := zeroAt_new
        have M4 := zeroAt_drew
        have M5 := zeroAt_set
        obtain ⟨e0, e1, i0, i1⟩ := (S1.out.mono ((Below.refl _ _).alloc (Nat.le_refl _) Z16)).c
        obtain ⟨j0, j1, k0, k1⟩ := (S2.out.mono ((Below.refl _ _).alloc (Nat.le_refl _) Z16)).c
        go_region
        clear M1 M2 M3 M4 M5 e0 e1 i0 i1 j0 j1 k0 k1
        have RX := Lib.hid (show two ((((W1.setCell ⟨w.heap.size, 0, none⟩ (.int .i64 0)).setCell ⟨w.heap.size, 1, none⟩ (.int .u64 0)).alloc Z16).drew) w.heap.size (0, 0) from
          (show two (((W1.setCell ⟨w.heap.size, 0, none⟩ (.int .i64 0)).setCell ⟨w.heap.size, 1, none⟩ (.int .u64 0)).alloc Z16) w.heap.size (0, 0) from S4.out.mono ((Below.refl _ _).alloc (Nat.le_refl _) _)))
        go_wp2
        clear c0 c1 f0 f1 d0 d1 g0 g1
        obtain ⟨d0, d1, g0, g1⟩ := RX.out.c
        show bodyPost Try.prog Try.f69 (fun e w' => e = .returned (.tuple #[.agg #[.int .i64 (getR s).1.1, .int .u64 (getR s).1.2], .bool (getR s).2]) ∧ Below w.heap.size w w') Exit.ret _ _
        refine bodyPost_ret (v := .tuple #[.agg #[.int .i64 0, .int .u64 0], .bool (s.toList == zero16.toList)]) ?_ rfl ?_
        · simp [results, Try.results69, go_sem, d0, d1]
        · exact ⟨by rw [HR.out, HZ.out, ← HY.out], (show ∀ v : World, Below w.heap.size w v → Below w.heap.size w v.drew from fun _ h => ⟨h.os, h.tape, h.output, h.size, h.block⟩) _ (SB2.out.alloc (by simp; omega) _)⟩
      case' neg =>
        have HR := Lib.hid (getR_yes s h (by rw [HZ.out, ← HY.out]; exact hA))
        have RX := Lib.hid (show two (((W1.setCell ⟨w.heap.size, 0, none⟩ (.int .i64 z)).setCell ⟨w.heap.size, 1, none⟩ (.int .u64 y)).drew) w.heap.size (z, y) from S4.out)
        have HA2 := Lib.hid hA
        clear hA
        by_cases hA : z = 0
        case' pos =>
          have hY : ¬ y = 0 := fun h => HA2.out ⟨hA, h⟩
          subst hA
        case pos =>
          go_region
          go_wp2
          clear c0 c1 f0 f1 d0 d1 g0 g1
          obtain ⟨d0, d1, g0, g1⟩ := RX.out.c
          show bodyPost Try.prog Try.f69 (fun e w' => e = .returned (.tuple #[.agg #[.int .i64 (getR s).1.1, .int .u64 (getR s).1.2], .bool (getR s).2]) ∧ Below w.heap.size w w') Exit.ret _ _
          refine bodyPost_ret (v := .tuple #[.agg #[.int .i64 0, .int .u64 y], .bool true]) ?_ rfl ?_
          · simp [results, Try.results69, go_sem, d0, d1]
          · exact ⟨by rw [HR.out, HZ.out, ← HY.out], (show ∀ v : World, Below w.heap.size w v → Below w.heap.size w v.drew from fun _ h => ⟨h.os, h.tape, h.output, h.size, h.block⟩) _ SB2.out⟩
        case neg =>
          go_region
          go_wp2
          clear c0 c1 f0 f1 d0 d1 g0 g1
          obtain ⟨d0, d1, g0, g1⟩ := RX.out.c
          show bodyPost Try.prog Try.f69 (fun e w' => e = .returned (.tuple #[.agg #[.int .i64 (getR s).1.1, .int .u64 (getR s).1.2], .bool (getR s).2]) ∧ Below w.heap.size w w') Exit.ret _ _
          refine bodyPost_ret (v := .tuple #[.agg #[.int .i64 z, .int .u64 y], .bool true]) ?_ rfl ?_
          · simp [results, Try.results69, go_sem, d0, d1]
          · exact ⟨by rw [HR.out, HZ.out, ← HY.out], (show ∀ v : World, Below w.heap.size w v → Below w.heap.size w v.drew from fun _ h => ⟨h.os, h.tape, h.output, h.size, h.block⟩) _ SB2.out⟩

theorem Get_any (s : ByteArray) (w : World) :
    Calls Try.prog 69 #[.string s] w fun e w' => e = .returned (.tuple #[.agg #[.int .i64 (getR s).1.1, .int .u64 (getR s).1.2], .bool (getR s).2]) ∧ Below w.heap.size w w' := by
  by_cases h : s.size = 16
  · exact Get_yes s w h
  · exact Get_no s w h

end Go.Proofs.Ytgafnilcmhjpcaa.HWide
