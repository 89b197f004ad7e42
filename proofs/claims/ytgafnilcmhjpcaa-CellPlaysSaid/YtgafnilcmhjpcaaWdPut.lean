/- Sums of 128 bits: Put, walked by hand, with no print's words. Conditions: none. -/
import Derived.Test.YtgafnilcmhjpcaaWd
import Derived.Laws.BytesArg
import Derived.Laws.OwnMore
import Derived.Deep.LoopGhost
namespace Go.Proofs.Ytgafnilcmhjpcaa.HWide
set_option linter.unusedVariables false
open Go.RowKit

def hb (x : Int) (i : Nat) : Int := x / 2 ^ (56 - 8 * i) % 256
def putF (a b : Int) (k i : Nat) : Int := if i < 8 then (if i < k then hb (IntKind.u64.wrap a) i else 0) else if i - 8 < k then hb b (i - 8) else 0
def putL (a b : Int) (k : Nat) : List Value := (List.range 16).map fun i => Value.int .u8 (putF a b k i)
/-- The bytes of a sum. -/
def putN (a b : Int) : List Int := (List.range 16).map fun i => putF a b 8 i
def arr (w : World) (b : Nat) (l : List Value) : Prop := w.heap[b]? = some (.cells l.toArray 89 (0, 0))
theorem arr.cell {w : World} {b : Nat} {l : List Value} (h : arr w b l) (i : Nat) (v : Value) (hi : l[i]? = some v) : w.cell? ⟨b, i, none⟩ = some v ∧ w.frozen? ⟨b, i, none⟩ = false := by
  unfold arr at h
  simp [World.cell?, World.frozen?, h, hi]
theorem arr.set {w : World} {b : Nat} {l : List Value} (h : arr w b l) (i : Nat) (v : Value) : arr (w.setCell ⟨b, i, none⟩ v) b (l.set i v) := by
  unfold arr at *
  simp [World.setCell, Array.getElem?_modify, h]
theorem putL_get (a b : Int) (k i : Nat) (hi : i < 16) : (putL a b k)[i]? = some (.int .u8 (putF a b k i)) := by
  simp [putL, hi]
theorem putF_lo (a b : Int) (k : Nat) (h : k < 8) : putF a b k k = 0 := by simp [putF, h]
theorem putF_hi (a b : Int) (k : Nat) (h : k < 8) : putF a b k (8 + k) = 0 := by
  unfold putF
  rw [if_neg (by omega), if_neg (by omega)]
theorem putL_next (a b : Int) (k : Nat) (h : k < 8) : ((putL a b k).set k (.int .u8 (hb (IntKind.u64.wrap a) k))).set (8 + k) (.int .u8 (hb b k)) = putL a b (k + 1) := by
  refine List.ext_getElem? fun i => ?_
  rw [List.getElem?_set, List.getElem?_set]
  by_cases hi : i < 16
  · rw [putL_get _ _ _ _ hi, putL_get _ _ _ _ hi]
    simp only [List.length_set, putL, List.length_map, List.length_range]
    by_cases h1 : 8 + k = i
    · rw [if_pos h1, if_pos (by omega)]
      unfold putF
      rw [if_neg (by omega), if_pos (by omega), show i - 8 = k by omega]
    · rw [if_neg h1]
      by_cases h2 : k = i
      · rw [if_pos h2, if_pos (by omega)]
        unfold putF
        rw [if_pos (by omega), if_pos (by omega), h2]
      · rw [if_neg h2]
        congr 2
        unfold putF
        by_cases h3 : i < 8
        · rw [if_pos h3, if_pos h3]
          by_cases h4 : i < k
          · rw [if_pos h4, if_pos (by omega)]
          · rw [if_neg h4, if_neg (by omega)]
        · rw [if_neg h3, if_neg h3]
          by_cases h4 : i - 8 < k
          · rw [if_pos h4, if_pos (by omega)]
          · rw [if_neg h4, if_neg (by omega)]
  · rw [List.getElem?_eq_none (l := putL a b k) (by simp [putL]; omega), List.getElem?_eq_none (l := putL a b (k + 1)) (by simp [putL]; omega)]
    have hl : (putL a b k).length = 16 := by simp [putL]
    rw [List.length_set, hl]
    rw [if_neg (by omega), if_neg (by omega)]

theorem Put_any (a b : Int) (w : World) :
    Calls Try.prog 22 #[.agg #[.int .i64 a, .int .u64 b]] w fun e w' => e = .returned (.string (strOfNums (putN a b))) ∧ Below w.heap.size w w' := by
  go_enter Try.func22, Try.ntmps22
  obtain ⟨W0, q0⟩ : ∃ W, W = (w.alloc (.cells #[.int .i64 a, .int .u64 b] 43)).alloc (.cells #[.int .u8 0, .int .u8 0, .int .u8 0, .int .u8 0, .int .u8 0, .int .u8 0, .int .u8 0, .int .u8 0, .int .u8 0, .int .u8 0, .int .u8 0, .int .u8 0, .int .u8 0, .int .u8 0, .int .u8 0, .int .u8 0] 89) := ⟨_, rfl⟩
  have S1 := Lib.hid (show two W0 w.heap.size (a, b) by
    rw [q0]; unfold two
    show ((w.heap.push _).push _)[w.heap.size]? = _
    rw [Array.getElem?_push_lt (by simp), Array.getElem_push_eq])
  have S2 := Lib.hid (show arr W0 (w.heap.size + 1) (putL a b 0) by
    rw [q0]; unfold arr
    show ((w.heap.push _).push _)[w.heap.size + 1]? = _
    rw [show w.heap.size + 1 = (w.heap.push (Obj.cells #[.int .i64 a, .int .u64 b] 43)).size by simp, Array.getElem?_push_size]
    rfl)
  have S3 := Lib.hid (show Below w.heap.size w W0 by rw [q0]; exact ((Below.refl _ _).alloc (Nat.le_refl _) _).alloc (by simp) _)
  have HQ := Lib.hid q0
  clear q0
  go_wp2_with fail
  rw [← HQ.out]
  go_loopw [5] (fun i wr => ∃ k : Nat, k ≤ 8 ∧ i = .int .i64 k ∧ two wr w.heap.size (a, b) ∧ arr wr (w.heap.size + 1) (putL a b k) ∧ Below w.heap.size w wr) (fun i _ => 8 - (intOf i).toNat)
  case atStart => exact ⟨0, by omega, rfl, S1.out, S2.out, S3.out⟩
  case round =>
    obtain ⟨k, hk, rfl, ht, ha, hbl⟩ := hrel
    have HT := Lib.hid ht
    have HA := Lib.hid ha
    have HB := Lib.hid hbl
    clear ht ha hbl
    obtain ⟨c0, c1, f0, f1⟩ := HT.out.c
    rcases Nat.lt_or_ge k 8 with hlt | hge
    · obtain ⟨g0, g1⟩ := HA.out.cell k (.int .u8 0) (by rw [putL_get a b _ _ (by omega), putF_lo a b _ hlt])
      obtain ⟨g2, g3⟩ := HA.out.cell (8 + k) (.int .u8 0) (by rw [putL_get a b _ (8 + k) (by omega), putF_hi a b _ hlt])
      have E := putL_next a b k hlt
      have hc : k = 0 ∨ k = 1 ∨ k = 2 ∨ k = 3 ∨ k = 4 ∨ k = 5 ∨ k = 6 ∨ k = 7 := by omega
      rcases hc with rfl | rfl | rfl | rfl | rfl | rfl | rfl | rfl
      all_goals
        simp only [hb, Nat.reduceMul, Nat.reduceSub, Int.reducePow, Nat.reduceAdd, Int.pow_zero, Int.ediv_one] at E g2 g3
        have EE := Lib.hid E
        clear E
        go_wp2
        go_roundw
        case rel =>
          refine ⟨_, ?_, rfl, (HT.out.other (by omega)).other (by omega), ?_, (HB.out.setCell (by simp) _).setCell (by simp) _⟩
          · decide
          · rw [← EE.out]
            exact (HA.out.set _ _).set _ _
        case measure => simp [intOf]
    · obtain rfl : k = 8 := by omega
      have hcv := run_convert_bytes_arg (P := Try.prog) wr 79 5 Try.underlying79 Try.underlying5 (w.heap.size + 1) 0 16 16 (putN a b) (by simp [putN]) (fun i hi => by
        rw [Nat.zero_add, (HA.out.cell i _ (putL_get a b 8 i hi)).1]
        simp [putN, hi]) 9 Try.underlying9
      go_wp2
      exact bodyPost_ret (by simp [results, Try.results22, go_sem]) rfl ⟨rfl, HB.out⟩

end Go.Proofs.Ytgafnilcmhjpcaa.HWide
