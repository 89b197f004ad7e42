/- The walk of the chapter's examples. -/
import Derived.Test.YtfbmdlheajclcaaWideGiven
import Derived.Deep.QuietTactic
import Derived.BigQuiet
namespace Go.Proofs.Ytfbmdlheajclcaa.HWide
open Go.RowKit Go.Proofs.Ytfbmdlheajclcaa.Print Go.Proofs.YtfbmdlheajclcaaW.PrintWords Go.Proofs.YtfbmdlheajclcaaW.PrintLast Go.Proofs.YtfbmdlheajclcaaW.PrintMore

def KP (w0 w : World) (b : Nat) (x : Int × Int) : Prop := two w b x ∧ Below w0.heap.size w0 w
theorem KP.carry {w0 w w' : World} {b : Nat} {x : Int × Int} (hb : Below w.heap.size w w') (h : KP w0 w b x) : KP w0 w' b x := ⟨h.1.mono hb, h.2.trans (hb.mono h.2.size)⟩
theorem KP.drew {w0 w : World} {b : Nat} {x : Int × Int} (h : KP w0 w b x) : KP w0 w.drew b x := ⟨h.1, ⟨h.2.os, h.2.tape, h.2.output, h.2.size, h.2.block⟩⟩

theorem ex_read1 : readR ⟨#[45, 49]⟩ = ((-1, 18446744073709551615), true) := by decide +kernel
theorem ex_read2 : readR ⟨#[48, 49]⟩ = ((0, 0), false) := by decide +kernel
theorem ex_text1 : wide_Sum_Text.f (-1) 18446744073709551615 = some ⟨#[45, 49]⟩ := by decide +kernel
theorem ex_text2 : wide_Sum_Text.f 0 0 = some ⟨#[48]⟩ := by decide +kernel
theorem ex_r1 (w : World) : Calls Try.prog 27 #[.string ⟨#[45, 49]⟩] w fun e w' => e = .returned (.tuple #[.agg #[.int .i64 (-1), .int .u64 18446744073709551615], .bool true]) ∧ Below w.heap.size w w' := by
  have := Read_any ⟨#[45, 49]⟩ w (by decide)
  rw [ex_read1] at this
  exact this
theorem ex_r2 (w : World) : Calls Try.prog 27 #[.string ⟨#[48, 49]⟩] w fun e w' => e = .returned (.tuple #[.agg #[.int .i64 0, .int .u64 0], .bool false]) ∧ Below w.heap.size w w' := by
  have := Read_any ⟨#[48, 49]⟩ w (by decide)
  rw [ex_read2] at this
  exact this
theorem ex_put (w : World) : ∃ s : ByteArray, s.size = 16 ∧ Calls Try.prog 23 #[.agg #[.int .i64 0, .int .u64 5]] w fun e w' => e = .returned (.string s) ∧ Below w.heap.size w w' :=
  ⟨strOfNums (putN 0 5), by rw [strOfNums_size]; simp [putN], Put_any 0 5 w⟩

theorem ex_of1 (w : World) : Calls Try.prog 25 #[.int .i64 (-1)] w fun e w' => e = .returned (.agg #[.int .i64 (-1), .int .u64 18446744073709551615]) ∧ Below w.heap.size w w' := wide_Of.calls (-1) (-1) 18446744073709551615 w (by decide +kernel)
theorem ex_of2 (w : World) : Calls Try.prog 25 #[.int .i64 1] w fun e w' => e = .returned (.agg #[.int .i64 0, .int .u64 1]) ∧ Below w.heap.size w w' := wide_Of.calls 1 0 1 w (by decide +kernel)
theorem ex_of3 (w : World) : Calls Try.prog 25 #[.int .i64 (-2)] w fun e w' => e = .returned (.agg #[.int .i64 (-1), .int .u64 18446744073709551614]) ∧ Below w.heap.size w w' := wide_Of.calls (-2) (-1) 18446744073709551614 w (by decide +kernel)
theorem ex_of4 (w : World) : Calls Try.prog 25 #[.int .i64 5] w fun e w' => e = .returned (.agg #[.int .i64 0, .int .u64 5]) ∧ Below w.heap.size w w' := wide_Of.calls 5 0 5 w (by decide +kernel)
theorem ex_t1 (w : World) : Calls Try.prog 21 #[.agg #[.int .i64 (-1), .int .u64 18446744073709551615]] w fun e w' => e = .returned (.string ⟨#[45, 49]⟩) ∧ Below w.heap.size w w' := wide_Sum_Text.calls (-1) 18446744073709551615 _ w ex_text1
theorem ex_t2 (w : World) : Calls Try.prog 21 #[.agg #[.int .i64 0, .int .u64 0]] w fun e w' => e = .returned (.string ⟨#[48]⟩) ∧ Below w.heap.size w w' := wide_Sum_Text.calls 0 0 _ w ex_text2
theorem ex_n (w : World) : Calls Try.prog 15 #[.agg #[.int .i64 0, .int .u64 1]] w fun e w' => e = .returned (.agg #[.int .i64 (-1), .int .u64 18446744073709551615]) ∧ Below w.heap.size w w' := wide_Sum_Neg.calls 0 1 (-1) 18446744073709551615 w (by decide +kernel)
theorem ex_l (w : World) : Calls Try.prog 17 #[.agg #[.int .i64 (-1), .int .u64 18446744073709551614], .agg #[.int .i64 0, .int .u64 1]] w fun e w' => e = .returned (.bool true) ∧ Below w.heap.size w w' := wide_Sum_Less.calls (-1) 18446744073709551614 0 1 true w (by decide +kernel)
theorem ex_s (w : World) : Calls Try.prog 19 #[.agg #[.int .i64 0, .int .u64 5]] w fun e w' => e = .returned (.int .i64 1) ∧ Below w.heap.size w w' := wide_Sum_Sign.calls 0 5 1 w (by decide +kernel)

set_option maxHeartbeats 2000000 in
theorem examples_any (w : World) :
    Calls Try.prog 11 #[] w fun e w' => e = .returned (.bool true) ∧ Below w.heap.size w w' := by
  go_enter Try.func11, Try.ntmps11
  go_wp2_with fail
  refine (ex_r1 _).mono ?_
  rintro e w1 ⟨rfl, hb1⟩
  have B1 := Lib.hid hb1
  clear hb1
  go_wp2_with fail
  refine (ex_r2 _).mono ?_
  rintro e w2 ⟨rfl, hb2⟩
  have B2 := Lib.hid hb2
  clear hb2
  go_wp2_with fail
  obtain ⟨W, hW⟩ : ∃ W, W = w2.alloc (.cells #[.int .i64 0, .int .u64 0] 24) := ⟨_, rfl⟩
  rw [← hW]
  have T := Lib.hid (show KP w W w1.heap.size (-1, 18446744073709551615) by
    have A1 : two (w1.alloc (.cells #[.int .i64 (-1), .int .u64 18446744073709551615] 24)) w1.heap.size (-1, 18446744073709551615) := by
      show (w1.heap.push _)[w1.heap.size]? = _
      rw [Array.getElem?_push_size]
    rw [hW]
    refine ⟨(A1.mono B2.out).mono ((Below.refl _ _).alloc (Nat.le_refl _) _), ?_⟩
    have h1 := B1.out.size
    have h2 := B2.out.size
    simp at h2
    exact ((B1.out.trans ((Below.refl _ _).alloc h1 _)).trans (B2.out.mono (by simp; omega))).trans ((Below.refl _ _).alloc (by omega) _))
  obtain ⟨b, hb⟩ : ∃ b, b = w1.heap.size := ⟨_, rfl⟩
  obtain ⟨c, hc⟩ : ∃ c, c = w2.heap.size := ⟨_, rfl⟩
  rw [← hb] at T ⊢
  rw [← hc]
  clear hW hb hc
  obtain ⟨sp, hsp, hput⟩ : ∃ s : ByteArray, s.size = 16 ∧ ∀ w, Calls Try.prog 23 #[.agg #[.int .i64 0, .int .u64 5]] w fun e w' => e = .returned (.string s) ∧ Below w.heap.size w w' :=
    ⟨strOfNums (putN 0 5), by rw [strOfNums_size]; simp [putN], fun w => Put_any 0 5 w⟩
  have HPut := Lib.hid hput
  clear hput
  refine wp_region_quiet (C := fun w' => KP w w' b (-1, 18446744073709551615)) (by kernel_rfl) (by kernel_rfl) (KP.drew T.out) ?_
  repeat (
    refine wpQuiet_step (fun K hK => ?_)
    go_simp
    first
      | (refine hK _ ?_; clear hK K)
      | (apply Exists.intro
         refine ⟨fun v hv => ?_, hK _ ?_⟩
         (first
           | with_reducible rfl
           | (with_reducible show Calls _ _ _ _ _
              first
                | with_reducible refine Calls.mono (ex_of1 v) ?_
                | with_reducible refine Calls.mono (ex_of2 v) ?_
                | with_reducible refine Calls.mono (ex_of3 v) ?_
                | with_reducible refine Calls.mono (ex_of4 v) ?_
                | with_reducible refine Calls.mono (ex_t1 v) ?_
                | with_reducible refine Calls.mono (ex_t2 v) ?_
                | with_reducible refine Calls.mono (ex_n v) ?_
                | with_reducible refine Calls.mono (ex_l v) ?_
                | with_reducible refine Calls.mono (ex_s v) ?_
                | with_reducible refine Calls.mono (HPut.out v) ?_
              rintro e w' ⟨rfl, hb⟩
              exact ⟨rfl, KP.carry hb hv⟩)
           | (obtain ⟨c0, c1, f0, f1⟩ := hv.1.c
              go_simp
              with_reducible rfl))
         clear hK K))
  refine wpQuiet_nil ?_
  intro wf hk
  go_wp2
  exact bodyPost_ret (by simp [results, Try.results11, go_sem]) rfl ⟨rfl, hk.2⟩

end Go.Proofs.Ytfbmdlheajclcaa.HWide
namespace Go.Proofs.Ytfbmdlheajclcaa.Print
open Go.RowKit Go.Proofs.Ytfbmdlheajclcaa.HWide
def scantlinglaw02_examples.f : Option Bool := some true
theorem scantlinglaw02_examples.calls (r : Bool) (w : World) (h : scantlinglaw02_examples.f = some r) :
    Calls Try.prog 11 #[] w fun e w' => e = .returned (.bool r) ∧ Below w.heap.size w w' := by
  have e := Option.some.inj h
  subst e
  exact examples_any w
end Go.Proofs.Ytfbmdlheajclcaa.Print
