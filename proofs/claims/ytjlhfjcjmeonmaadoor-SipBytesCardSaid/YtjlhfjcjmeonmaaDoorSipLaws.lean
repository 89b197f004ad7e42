/- The walks of chapter 1's laws over the contracts of the package sip. -/
import Derived.Test.YtjlhfjcjmeonmaaDoorSipPlain
import Derived.Laws.OwnMore
import Derived.Lib.ConvBytes
namespace Go.Proofs.YtjlhfjcjmeonmaaDoor.HSip
open Go.RowKit Go.Proofs.YtjlhfjcjmeonmaaDoor.Print Go.Proofs.YtjlhfjcjmeonmaaDoorW.PrintWords Go.Proofs.YtjlhfjcjmeonmaaDoorW.PrintLast Go.Proofs.YtjlhfjcjmeonmaaDoorW.PrintMore

/-- The first k bytes. -/
def upTo (k : Nat) : ByteArray := ⟨((List.range k).map UInt8.ofNat).toArray⟩

theorem ex_sum : sumN 506097522914230528 1084818905618843912 (upTo 15).data.toList = 11613035633349379557 := by decide +kernel
theorem ex_x : (sumN 0 0 [120] == sumN 1 0 [120]) = false := by decide +kernel
theorem ex_r : rankN 8 0 = 4 ∧ rankN 0 60 = 5 := by decide +kernel

theorem up_all : ((List.range 15).all fun k => (upTo k ++ strOfNums [(k : Int)]).data.toList == (upTo (k + 1)).data.toList) = true := by decide +kernel
theorem up_succ (k : Nat) (h : k < 15) : upTo k ++ strOfNums [(k : Int)] = upTo (k + 1) := by
  have := beq_iff_eq.1 (List.all_eq_true.1 up_all k (List.mem_range.2 h))
  exact ByteArray.ext (Array.toList_inj.1 this)

theorem _root_.Go.RowKit.Below.tr {w w1 w2 : World} (h : Below w.heap.size w w1) (k : Below w1.heap.size w1 w2) : Below w.heap.size w w2 := h.trans (k.mono h.size)

theorem up_size (k : Nat) : (upTo k).size = k := by simp [upTo, ByteArray.size]

theorem ex_r1 (w : World) (hT : TabAt w) : Calls Tryd.prog 13 #[.int .u64 8, .int .i64 0] w fun e w' => e = .returned (.int .i64 4) ∧ w' = w := by
  have := Rank_yes 8 0 (by decide) (by decide) w hT
  rw [ex_r.1] at this
  exact this
theorem ex_r2 (w : World) (hT : TabAt w) : Calls Tryd.prog 13 #[.int .u64 0, .int .i64 60] w fun e w' => e = .returned (.int .i64 5) ∧ w' = w := by
  have := Rank_yes 0 60 (by decide) (by decide) w hT
  rw [ex_r.2] at this
  exact this
theorem ex_r3 (w : World) : Calls Tryd.prog 13 #[.int .u64 1, .int .i64 64] w fun e w' => e = .returned (.int .i64 0) ∧ w' = w := Rank_no 1 64 w (by omega)
theorem ex_s (w : World) : Calls Tryd.prog 11 #[.int .u64 506097522914230528, .int .u64 1084818905618843912, .string (upTo 15)] w fun e w' => e = .returned (.int .u64 11613035633349379557) ∧ Below w.heap.size w w' := by
  have := Sum_any 506097522914230528 1084818905618843912 (upTo 15) w (by decide) (by decide) (by rw [up_size]; omega)
  rw [ex_sum] at this
  exact this

def ExRel (w1 : World) (s i : Value) (wr : World) : Prop := ∃ k : Nat, k ≤ 15 ∧ i = .int .i64 k ∧ s = .string (upTo k) ∧ Below w1.heap.size w1 wr

set_option maxHeartbeats 2000000 in
theorem examples_any (w : World) (hT : TabAt w) :
    Calls Tryd.prog 9 #[] w fun e w' => e = .returned (.bool true) ∧ Below w.heap.size w w' := by
  have HT := Lib.hid hT
  clear hT
  go_enter Tryd.func9, Tryd.ntmps9
  go_wp2_with fail
  refine (Key_any _ _ (by decide)).mono ?_
  rintro e w1 ⟨rfl, hb⟩
  have B1 := Lib.hid hb
  clear hb
  obtain ⟨x0, h0⟩ : ∃ x, x = sumN 0 0 [120] := ⟨_, rfl⟩
  obtain ⟨x1, h1⟩ : ∃ x, x = sumN 1 0 [120] := ⟨_, rfl⟩
  have H0 := Lib.hid h0
  have H1 := Lib.hid h1
  rw [← h0, ← h1]
  clear h0 h1
  go_wp2
  go_loopw [3, 4] (fun s i wr => ExRel w1 s i wr) (fun _ i _ => 15 - (intOf i).toNat)
  case atStart => exact ⟨0, Nat.zero_le _, rfl, rfl, Below.refl _ _⟩
  case round =>
    obtain ⟨k, hk, rfl, rfl, hb⟩ := hrel
    have HB := Lib.hid hb
    clear hb
    rcases Nat.lt_or_ge k 15 with hlt | hge
    · have hcv := run_convert_bytes_arg (P := Tryd.prog) (wr.alloc (.cells #[.int .u8 k] 5)) 30 5 Tryd.underlying30 Tryd.underlying5 wr.heap.size 0 1 1 [(k : Int)] rfl (fun i hi => by
        obtain rfl : i = 0 := by omega
        exact (World.cell?_alloc_new wr _ _ _).trans rfl) 9 Tryd.underlying9
      have HU := Lib.hid (up_succ k hlt)
      have hz : ¬ 9223372036854775807 < (upTo k).size + (strOfNums [(k : Int)]).size := by rw [up_size, strOfNums_size]; simp; omega
      go_wp2
      go_roundw
      case rel =>
        refine ⟨k + 1, by omega, by go_num, ?_, HB.out.trans (((Below.refl _ wr).alloc (Nat.le_refl _) _).mono HB.out.size)⟩
        rw [← HU.out]
      case measure => simp [intOf]; omega
    · obtain rfl : k = 15 := by omega
      have T2 := Lib.hid (HT.out.below (B1.out.trans (HB.out.mono B1.out.size)))
      go_wp2_with fail
      refine (ex_r1 _ T2.out).mono ?_
      rintro e w2 ⟨rfl, rfl⟩
      go_wp2_with fail
      refine (ex_r2 _ T2.out).mono ?_
      rintro e w2 ⟨rfl, rfl⟩
      go_wp2_with fail
      refine (ex_r3 _).mono ?_
      rintro e w2 ⟨rfl, rfl⟩
      go_wp2_with fail
      refine (ex_s _).mono ?_
      rintro e w3 ⟨rfl, hb⟩
      have B3 := Lib.hid hb
      clear hb
      go_wp2_with fail
      refine (Sum_any 0 0 _ _ zero_lt zero_lt (by decide)).mono ?_
      rintro e w4 ⟨rfl, hb⟩
      have B4 := Lib.hid hb
      clear hb
      rw [← H0.out]
      go_wp2_with fail
      refine (Sum_any 1 0 _ _ (by decide) zero_lt (by decide)).mono ?_
      rintro e w5 ⟨rfl, hb⟩
      have B5 := Lib.hid hb
      clear hb
      rw [← H1.out]
      have hne := ex_x
      rw [← H0.out, ← H1.out] at hne
      have hn1 : ((x0 : Int) == (x1 : Int)) = false := by rw [beq_eq_false_iff_ne] at hne ⊢; omega
      have hn2 : ((x0 : Int) != (x1 : Int)) = true := by rw [bne, hn1]; rfl
      clear hne
      go_wp2
      go_ret
      exact ⟨rfl, B1.out.tr (HB.out.tr (B3.out.tr (B4.out.tr B5.out)))⟩

set_option maxHeartbeats 2000000 in
theorem SipKeys_any (s : ByteArray) (w : World) (hT : TabAt w) (hs : s.size ≤ 140737488355328) :
    Calls Tryd.prog 8 #[.string s] w fun e w' => e = .returned (.bool true) ∧ Below w.heap.size w w' := by
  go_enter Tryd.func8, Tryd.ntmps8
  go_wp2_with fail
  refine (examples_any _ hT).mono ?_
  rintro e w1 ⟨rfl, hb⟩
  have B1 := Lib.hid hb
  clear hb
  go_wp2_with fail
  refine (Key_any s _ hs).mono ?_
  rintro e w2 ⟨rfl, hb⟩
  have B2 := Lib.hid hb
  clear hb
  go_wp2_with fail
  refine (Sum_any 0 0 s _ zero_lt zero_lt hs).mono ?_
  rintro e w3 ⟨rfl, hb⟩
  have B3 := Lib.hid hb
  clear hb
  go_wp2_with fail
  refine (Sum_any 1 0 s _ (by decide) zero_lt hs).mono ?_
  rintro e w4 ⟨rfl, hb⟩
  have B4 := Lib.hid hb
  clear hb
  go_wp2
  go_ret
  exact ⟨rfl, B1.out.tr (B2.out.tr (B3.out.tr B4.out))⟩

set_option maxHeartbeats 2000000 in
theorem SipSums_any (a b : Nat) (s : ByteArray) (k : Nat) (w : World) (hT : TabAt w) (ha : a < M64) (hb : b < M64) (hs : s.size ≤ 140737488355328)
    (r1 : scantlingref01_Sum.f k a b s = some (sumN a b s.data.toList : Nat)) (r2 : scantlingref01_Sum.f k 0 0 s = some (sumN 0 0 s.data.toList : Nat)) (r3 : scantlingref01_Sum.f k 1 0 s = some (sumN 1 0 s.data.toList : Nat)) :
    Calls Tryd.prog 3 #[.int .u64 a, .int .u64 b, .string s] w fun e w' => e = .returned (.bool true) ∧ Below w.heap.size w w' := by
  have R1 := Lib.hid r1
  have R2 := Lib.hid r2
  have R3 := Lib.hid r3
  clear r1 r2 r3
  go_enter Tryd.func3, Tryd.ntmps3
  go_wp2_with fail
  refine (examples_any _ hT).mono ?_
  rintro e w1 ⟨rfl, hb⟩
  have B1 := Lib.hid hb
  clear hb
  go_wp2_with fail
  refine (Key_any s _ hs).mono ?_
  rintro e w2 ⟨rfl, hb⟩
  have B2 := Lib.hid hb
  clear hb
  go_wp2_with fail
  refine (Sum_any a b s _ ha hb hs).mono ?_
  rintro e w3 ⟨rfl, hb⟩
  have B3 := Lib.hid hb
  clear hb
  go_wp2_with fail
  refine (scantlingref01_Sum.calls k a b s _ _ R1.out).mono ?_
  rintro e w4 ⟨rfl, hb⟩
  have B4 := Lib.hid hb
  clear hb
  go_wp2_with fail
  refine (scantlingref01_Sum.calls k 0 0 s _ _ R2.out).mono ?_
  rintro e w5 ⟨rfl, hb⟩
  have B5 := Lib.hid hb
  clear hb
  go_wp2_with fail
  refine (scantlingref01_Sum.calls k 1 0 s _ _ R3.out).mono ?_
  rintro e w6 ⟨rfl, hb⟩
  have B6 := Lib.hid hb
  clear hb
  go_wp2
  go_ret
  exact ⟨rfl, B1.out.tr (B2.out.tr (B3.out.tr (B4.out.tr (B5.out.tr B6.out))))⟩

theorem Rank_any (h : Nat) (f : Int) (hh : h < M64) (w : World) (hT : TabAt w) :
    Calls Tryd.prog 13 #[.int .u64 h, .int .i64 f] w fun e w' => e = .returned (.int .i64 (rankZ h f)) ∧ w' = w := by
  unfold rankZ
  by_cases hf : 0 ≤ f ∧ f < 64
  · rw [if_pos hf]
    obtain ⟨n, rfl⟩ := Int.eq_ofNat_of_zero_le hf.1
    exact Rank_yes h n hh (by omega) w hT
  · rw [if_neg hf]
    exact Rank_no h f w (by omega)

theorem SipRanks_at (h : Nat) (f : Int) (hh : h < M64) (w : World) :
    Calls Tryd.prog 14 #[.int .u64 h, .int .i64 f] w fun e w' => e = .returned (.int .i64 (rankZ h f)) ∧ Below w.heap.size w w' :=
  (scantlingref01_Rank.calls 100 h f _ w (refrank h f hh)).mono fun _ _ q => ⟨q.1, q.2.below⟩

set_option maxHeartbeats 2000000 in
theorem SipRanks_any (h : Nat) (f : Int) (near : Bool) (w : World) (hT : TabAt w) (hh : h < M64) :
    Calls Tryd.prog 4 #[.int .u64 h, .int .i64 f, .bool near] w fun e w' => e = .returned (.bool true) ∧ Below w.heap.size w w' := by
  have HT := Lib.hid hT
  clear hT
  cases near with
  | true =>
    go_enter Tryd.func4, Tryd.ntmps4
    go_wp2_with fail
    refine (examples_any _ HT.out).mono ?_
    rintro e w1 ⟨rfl, hb⟩
    have B1 := Lib.hid hb
    clear hb
    have T1 := Lib.hid (HT.out.below B1.out)
    go_wp2_with fail
    refine (Rank_any h _ hh _ T1.out).mono ?_
    rintro e w2 ⟨rfl, rfl⟩
    go_wp2_with fail
    refine (SipRanks_at h _ hh _).mono ?_
    rintro e w3 ⟨rfl, hb⟩
    have B3 := Lib.hid hb
    clear hb
    go_wp2
    go_ret
    exact ⟨rfl, B1.out.tr B3.out⟩
  | false =>
    go_enter Tryd.func4, Tryd.ntmps4
    go_wp2_with fail
    refine (examples_any _ HT.out).mono ?_
    rintro e w1 ⟨rfl, hb⟩
    have B1 := Lib.hid hb
    clear hb
    have T1 := Lib.hid (HT.out.below B1.out)
    go_wp2_with fail
    refine (Rank_any h _ hh _ T1.out).mono ?_
    rintro e w2 ⟨rfl, rfl⟩
    go_wp2_with fail
    refine (SipRanks_at h _ hh _).mono ?_
    rintro e w3 ⟨rfl, hb⟩
    have B3 := Lib.hid hb
    clear hb
    go_wp2
    go_ret
    exact ⟨rfl, B1.out.tr B3.out⟩

theorem tmod_bit (h i b : Nat) (hb : h / 2 ^ i % 2 = b) : (((h : Int) / 2 ^ i).tmod 2 == 1) = (b == 1) := by
  have e : ((h : Int) / 2 ^ i).tmod 2 = ((h / 2 ^ i % 2 : Nat) : Int) := by
    rw [show (h : Int) / 2 ^ i = ((h / 2 ^ i : Nat) : Int) from by push_cast; rfl]
    rfl
  rw [e, hb]
  rw [Bool.eq_iff_iff]
  simp only [beq_iff_eq]
  omega

set_option maxHeartbeats 2000000 in
theorem SipBounds_any (h g : Nat) (w : World) (hT : TabAt w) (hh : h < M64) (hg : g < 256) :
    Calls Tryd.prog 6 #[.int .u64 h, .int .u8 g] w fun e w' => e = .returned (.bool true) ∧ Below w.heap.size w w' := by
  have HT := Lib.hid hT
  clear hT
  obtain ⟨f, hf⟩ : ∃ f, f = g % 64 := ⟨_, rfl⟩
  have hf64 : f < 64 := by omega
  have em : (g : Int) % 64 = (f : Int) := by omega
  have EM := Lib.hid em
  obtain ⟨r, hr⟩ : ∃ r, r = rankN h f := ⟨_, rfl⟩
  have HR := Lib.hid hr
  have r1 : 1 ≤ r := by rw [hr]; exact rank_pos h f
  have r2 : r ≤ 65 - f := by rw [hr]; exact rank_le h f hf64
  clear hr em hf
  go_enter Tryd.func6, Tryd.ntmps6
  go_wp2_with fail
  refine (examples_any _ HT.out).mono ?_
  rintro e w1 ⟨rfl, hb⟩
  have B1 := Lib.hid hb
  clear hb
  have T1 := Lib.hid (HT.out.below B1.out)
  go_wp2_with fail
  rw [EM.out]
  refine (Rank_yes h f hh hf64 _ T1.out).mono ?_
  rintro e w2 ⟨rfl, rfl⟩
  rw [← HR.out]
  go_wp2
  go_loop [8] (fun i => ∃ j : Nat, j ≤ r - 1 ∧ i = .int .i64 ((f + j : Nat) : Int)) (fun i => f + r - (intOf i).toNat)
  case atStart => exact ⟨0, Nat.zero_le _, rfl⟩
  case round =>
    obtain ⟨j, hj, rfl⟩ := hrel
    obtain ⟨i, hi⟩ : ∃ i, i = f + j := ⟨_, rfl⟩
    rw [← hi]
    have hi1 : f ≤ i := by omega
    have hi2 : i ≤ f + (r - 1) := by omega
    rcases Nat.lt_or_ge (j + 1) r with hlt | hge
    · have hi3 : (i : Int) < (f : Int) + (r : Int) - 1 := by omega
      have b := rank_low h f j hh (by rw [← HR.out]; exact hlt)
      rw [← hi] at b
      have b' := tmod_bit h i 0 b
      rw [show ((0 : Nat) == 1) = false from rfl] at b'
      have HI := Lib.hid hi
      clear hi b
      go_wp2
      go_round
      case rel => exact ⟨j + 1, by omega, by rw [show f + (j + 1) = i + 1 by have := HI.out; omega]; go_num⟩
      case measure => simp [intOf]; omega
    · have hi3 : (f : Int) + (r : Int) - 1 ≤ (i : Int) := by omega
      have hie : i = f + (r - 1) := by omega
      have HI := Lib.hid hie
      by_cases hr : r = 65 - f
      · have t : ((r : Int) == 65 - (f : Int)) = true := by rw [beq_iff_eq]; omega
        clear hi hie hr
        go_wp2
        go_ret
        exact ⟨rfl, B1.out⟩
      · have t : ((r : Int) == 65 - (f : Int)) = false := by rw [beq_eq_false_iff_ne]; omega
        have b := rank_bit h f hh hf64 (by rw [← HR.out]; exact hr)
        rw [← HR.out] at b
        rw [show f + (r - 1) = f + r - 1 by omega] at b
        have b' := tmod_bit h (f + r - 1) 1 b
        rw [show ((1 : Nat) == 1) = true from rfl] at b'
        clear hi hie hr b
        go_wp2
        go_ret
        exact ⟨rfl, B1.out⟩

end Go.Proofs.YtjlhfjcjmeonmaaDoor.HSip
