/- The walk of WideSums. -/
import Derived.Test.YtfbmdlheajclcaaWideAdds
import Derived.Test.YtfbmdlheajclcaaRefPlain3
namespace Go.Proofs.Ytfbmdlheajclcaa.HWide
set_option linter.unusedVariables false
open Go.RowKit Go.Proofs.Ytfbmdlheajclcaa.Print Go.Proofs.Ytfbmdlheajclcaa.HRef Go.Proofs.YtfbmdlheajclcaaW.PrintWords Go.Proofs.YtfbmdlheajclcaaW.PrintLast Go.Proofs.YtfbmdlheajclcaaW.PrintMore

/-- Cells of sums of either kind stay as they are. -/
def twoT (w : World) (b : Nat) (t : TypeId) (x : Int × Int) : Prop := w.heap[b]? = some (.cells #[.int .i64 x.1, .int .u64 x.2] t (0, 0))
theorem twoT.c {w : World} {b : Nat} {t : TypeId} {x : Int × Int} (h : twoT w b t x) : w.cell? ⟨b, 0, none⟩ = some (.int .i64 x.1) ∧ w.cell? ⟨b, 1, none⟩ = some (.int .u64 x.2) ∧ w.frozen? ⟨b, 0, none⟩ = false ∧ w.frozen? ⟨b, 1, none⟩ = false := by
  unfold twoT at h
  simp [World.cell?, World.frozen?, h]
theorem twoT.mono {w w' : World} {b : Nat} {t : TypeId} {x : Int × Int} (h : twoT w b t x) (hb : Below w.heap.size w w') : twoT w' b t x := by
  unfold twoT at *
  have hl : b < w.heap.size := by
    rcases Nat.lt_or_ge b w.heap.size with h' | h'
    · exact h'
    · rw [Array.getElem?_eq_none h'] at h; cases h
  rw [hb.block b hl]; exact h
def KT (w0 w : World) (l : List (Nat × TypeId × (Int × Int))) : Prop := (∀ p ∈ l, twoT w p.1 p.2.1 p.2.2) ∧ Below w0.heap.size w0 w
theorem KT.carry {w0 w w' : World} {l : List (Nat × TypeId × (Int × Int))} (hb : Below w.heap.size w w') (h : KT w0 w l) : KT w0 w' l := ⟨fun p hp => (h.1 p hp).mono hb, h.2.trans (hb.mono h.2.size)⟩
theorem KT.drew {w0 w : World} {l : List (Nat × TypeId × (Int × Int))} (h : KT w0 w l) : KT w0 w.drew l := ⟨fun p hp => h.1 p hp, ⟨h.2.os, h.2.tape, h.2.output, h.2.size, h.2.block⟩⟩
theorem KT.new {w0 w : World} {l : List (Nat × TypeId × (Int × Int))} (h : KT w0 w l) (t : TypeId) (x : Int × Int) : KT w0 (w.alloc (.cells #[.int .i64 x.1, .int .u64 x.2] t)) ((w.heap.size, t, x) :: l) := by
  refine ⟨fun p hp => ?_, h.2.trans ((Below.refl _ _).alloc h.2.size _)⟩
  rcases List.mem_cons.1 hp with rfl | hp
  · show (w.heap.push _)[w.heap.size]? = _
    rw [Array.getElem?_push_size]
  · exact (h.1 p hp).mono ((Below.refl _ _).alloc (Nat.le_refl _) _)
def I64 (m : Int) : Prop := -9223372036854775808 ≤ m ∧ m ≤ 9223372036854775807
theorem ws1 (x y n : Int) (hx : Sm x) (hy : Sm y) (hn : I64 n) (w : World) : Calls Try.prog 13 #[.agg #[.int .i64 (nrm x).1, .int .u64 (nrm x).2], .agg #[.int .i64 (nrm y).1, .int .u64 (nrm y).2]] w fun e w' => e = .returned (.agg #[.int .i64 (nrm (x + y)).1, .int .u64 (nrm (x + y)).2]) ∧ Below w.heap.size w w' :=
  wide_Sum_Add.calls _ _ _ _ _ _ w (add_is x y)
theorem ws2 (x y n : Int) (hx : Sm x) (hy : Sm y) (hn : I64 n) (w : World) : Calls Try.prog 12 #[.agg #[.int .i64 (nrm (x + y)).1, .int .u64 (nrm (x + y)).2]] w fun e w' => e = .returned (.agg #[.int .i64 (nrm (x + y)).1, .int .u64 (nrm (x + y)).2]) ∧ Below w.heap.size w w' :=
  scantlinglaw02_ref.calls _ _ _ _ w rfl
theorem ws3 (x y n : Int) (hx : Sm x) (hy : Sm y) (hn : I64 n) (w : World) : Calls Try.prog 14 #[.agg #[.int .i64 (nrm x).1, .int .u64 (nrm x).2], .agg #[.int .i64 (nrm y).1, .int .u64 (nrm y).2]] w fun e w' => e = .returned (.agg #[.int .i64 (nrm (x + y)).1, .int .u64 (nrm (x + y)).2]) ∧ Below w.heap.size w w' :=
  scantlingref02_Sum_Add.calls _ _ _ _ _ _ w (radd x y)
theorem ws4 (x y n : Int) (hx : Sm x) (hy : Sm y) (hn : I64 n) (w : World) : Calls Try.prog 15 #[.agg #[.int .i64 (nrm x).1, .int .u64 (nrm x).2]] w fun e w' => e = .returned (.agg #[.int .i64 (nrm (-x)).1, .int .u64 (nrm (-x)).2]) ∧ Below w.heap.size w w' :=
  wide_Sum_Neg.calls _ _ _ _ w (neg_is x)
theorem ws5 (x y n : Int) (hx : Sm x) (hy : Sm y) (hn : I64 n) (w : World) : Calls Try.prog 12 #[.agg #[.int .i64 (nrm (-x)).1, .int .u64 (nrm (-x)).2]] w fun e w' => e = .returned (.agg #[.int .i64 (nrm (-x)).1, .int .u64 (nrm (-x)).2]) ∧ Below w.heap.size w w' :=
  scantlinglaw02_ref.calls _ _ _ _ w rfl
theorem ws6 (x y n : Int) (hx : Sm x) (hy : Sm y) (hn : I64 n) (w : World) : Calls Try.prog 16 #[.agg #[.int .i64 (nrm x).1, .int .u64 (nrm x).2]] w fun e w' => e = .returned (.agg #[.int .i64 (nrm (-x)).1, .int .u64 (nrm (-x)).2]) ∧ Below w.heap.size w w' :=
  scantlingref02_Sum_Neg.calls _ _ _ _ w (by unfold scantlingref02_Sum_Neg.f; rw [if_pos (nrm_rng x), nrm_neg_any])
theorem ws7 (x y n : Int) (hx : Sm x) (hy : Sm y) (hn : I64 n) (w : World) : Calls Try.prog 17 #[.agg #[.int .i64 (nrm x).1, .int .u64 (nrm x).2], .agg #[.int .i64 (nrm y).1, .int .u64 (nrm y).2]] w fun e w' => e = .returned (.bool (decide (x < y))) ∧ Below w.heap.size w w' :=
  wide_Sum_Less.calls _ _ _ _ _ w (by unfold wide_Sum_Less.f; rw [if_pos ⟨nrm_rng x, nrm_rng y⟩, val_nrm x hx, val_nrm y hy])
theorem ws8 (x y n : Int) (hx : Sm x) (hy : Sm y) (hn : I64 n) (w : World) : Calls Try.prog 18 #[.agg #[.int .i64 (nrm x).1, .int .u64 (nrm x).2], .agg #[.int .i64 (nrm y).1, .int .u64 (nrm y).2]] w fun e w' => e = .returned (.bool (decide (x < y))) ∧ Below w.heap.size w w' :=
  scantlingref02_Sum_Less.calls _ _ _ _ _ w (by rw [refLess _ _ _ _ (nrm_rng x) (nrm_rng y), val_nrm x hx, val_nrm y hy])
theorem ws9 (x y n : Int) (hx : Sm x) (hy : Sm y) (hn : I64 n) (w : World) : Calls Try.prog 19 #[.agg #[.int .i64 (nrm x).1, .int .u64 (nrm x).2]] w fun e w' => e = .returned (.int .i64 (cmpI x 0)) ∧ Below w.heap.size w w' :=
  wide_Sum_Sign.calls _ _ _ w (by unfold wide_Sum_Sign.f; rw [if_pos (nrm_rng x), val_nrm x hx])
theorem ws10 (x y n : Int) (hx : Sm x) (hy : Sm y) (hn : I64 n) (w : World) : Calls Try.prog 20 #[.agg #[.int .i64 (nrm x).1, .int .u64 (nrm x).2]] w fun e w' => e = .returned (.int .i64 (cmpI x 0)) ∧ Below w.heap.size w w' :=
  scantlingref02_Sum_Sign.calls _ _ _ w (by rw [refSign _ _ (nrm_rng x), val_nrm x hx])
theorem ws11 (x y n : Int) (hx : Sm x) (hy : Sm y) (hn : I64 n) (w : World) : Calls Try.prog 21 #[.agg #[.int .i64 (nrm x).1, .int .u64 (nrm x).2]] w fun e w' => e = .returned (.string (strOfNums (decZ x))) ∧ Below w.heap.size w w' :=
  wide_Sum_Text.calls _ _ _ w (text_is x hx)
theorem ws12 (x y n : Int) (hx : Sm x) (hy : Sm y) (hn : I64 n) (w : World) : Calls Try.prog 22 #[.agg #[.int .i64 (nrm x).1, .int .u64 (nrm x).2]] w fun e w' => e = .returned (.string (strOfNums (decZ x))) ∧ Below w.heap.size w w' :=
  scantlingref02_Sum_Text.calls 1000 _ _ _ w (by rw [refText 1000 _ _ (nrm_rng x) (by omega), val_nrm x hx])
theorem ws13 (x y n : Int) (hx : Sm x) (hy : Sm y) (hn : I64 n) (w : World) : Calls Try.prog 23 #[.agg #[.int .i64 (nrm x).1, .int .u64 (nrm x).2]] w fun e w' => e = .returned (.string (strOfNums (putN (nrm x).1 (nrm x).2))) ∧ Below w.heap.size w w' :=
  wide_Sum_Put.calls _ _ _ w rfl
theorem ws14 (x y n : Int) (hx : Sm x) (hy : Sm y) (hn : I64 n) (w : World) : Calls Try.prog 24 #[.agg #[.int .i64 (nrm x).1, .int .u64 (nrm x).2]] w fun e w' => e = .returned (.string (strOfNums (putN (nrm x).1 (nrm x).2))) ∧ Below w.heap.size w w' :=
  scantlingref02_Sum_Put.calls 1000 _ _ _ w (refPut 1000 _ _ (by omega))
theorem ws15 (x y n : Int) (hx : Sm x) (hy : Sm y) (hn : I64 n) (w : World) : Calls Try.prog 25 #[.int .i64 n] w fun e w' => e = .returned (.agg #[.int .i64 (nrm n).1, .int .u64 (nrm n).2]) ∧ Below w.heap.size w w' :=
  wide_Of.calls _ _ _ w (of_is n ⟨hn.1, by have := hn.2; omega⟩)
theorem ws16 (x y n : Int) (hx : Sm x) (hy : Sm y) (hn : I64 n) (w : World) : Calls Try.prog 12 #[.agg #[.int .i64 (nrm n).1, .int .u64 (nrm n).2]] w fun e w' => e = .returned (.agg #[.int .i64 (nrm n).1, .int .u64 (nrm n).2]) ∧ Below w.heap.size w w' :=
  scantlinglaw02_ref.calls _ _ _ _ w rfl
theorem ws17 (x y n : Int) (hx : Sm x) (hy : Sm y) (hn : I64 n) (w : World) : Calls Try.prog 26 #[.int .i64 n] w fun e w' => e = .returned (.agg #[.int .i64 (nrm n).1, .int .u64 (nrm n).2]) ∧ Below w.heap.size w w' :=
  scantlingref02_Of.calls _ _ _ w (refOf n hn)
theorem ws18 (x y n : Int) (hx : Sm x) (hy : Sm y) (hn : I64 n) (w : World) : Calls Try.prog 12 #[.agg #[.int .i64 (nrm x).1, .int .u64 (nrm x).2]] w fun e w' => e = .returned (.agg #[.int .i64 (nrm x).1, .int .u64 (nrm x).2]) ∧ Below w.heap.size w w' :=
  scantlinglaw02_ref.calls _ _ _ _ w rfl
theorem ws19 (x y n : Int) (hx : Sm x) (hy : Sm y) (hn : I64 n) (w : World) : Calls Try.prog 12 #[.agg #[.int .i64 (nrm y).1, .int .u64 (nrm y).2]] w fun e w' => e = .returned (.agg #[.int .i64 (nrm y).1, .int .u64 (nrm y).2]) ∧ Below w.heap.size w w' :=
  scantlinglaw02_ref.calls _ _ _ _ w rfl

set_option maxHeartbeats 4000000 in
theorem WideSums_any (x y n : Int) (hx : Sm x) (hy : Sm y) (hn : I64 n) (w : World) :
    Calls Try.prog 3 #[.agg #[.int .i64 (nrm x).1, .int .u64 (nrm x).2], .agg #[.int .i64 (nrm y).1, .int .u64 (nrm y).2], .int .i64 n] w fun e w' => e = .returned (.bool true) ∧ Below w.heap.size w w' := by
  have HX := Lib.hid hx
  have HY := Lib.hid hy
  have HN := Lib.hid hn
  clear hx hy hn
  go_enter Try.func3, Try.ntmps3
  go_wp2_with fail
  refine (examples_any _).mono ?_
  rintro e w1 ⟨rfl, hb1⟩
  have K1 := Lib.hid (KT.carry hb1 (KT.new (KT.new (show KT w w [] from ⟨fun p hp => (by cases hp), Below.refl _ _⟩) 24 (nrm x)) 24 (nrm y)))
  clear hb1
  obtain ⟨a1, h1⟩ : ∃ a, a = w.heap.size := ⟨_, rfl⟩
  obtain ⟨a2, h2⟩ : ∃ a, a = w.heap.size + 1 := ⟨_, rfl⟩
  have K2 := Lib.hid (show KT w w1 [(a2, 24, nrm y), (a1, 24, nrm x)] by
    have := K1.out
    simp only [show ∀ (u : World) o, (u.alloc o).heap.size = u.heap.size + 1 from fun u o => by simp] at this
    rw [h1, h2]
    exact this)
  clear K1
  rw [← h2, ← h1]
  clear h1 h2
  obtain ⟨c0, c1, f0, f1⟩ := (K2.out.1 (a1, 24, nrm x) (by simp)).c
  go_wp2_with fail
  clear c0 c1 f0 f1
  refine (ws18 x y n HX.out HY.out HN.out _).mono ?_
  rintro e w2 ⟨rfl, hb⟩
  have K3 := Lib.hid (KT.new (KT.carry hb K2.out) 26 (nrm x))
  clear hb K2
  obtain ⟨c0, c1, f0, f1⟩ := (K3.out.1 (a2, 24, nrm y) (by simp)).c
  go_wp2_with fail
  clear c0 c1 f0 f1
  refine (ws19 x y n HX.out HY.out HN.out _).mono ?_
  rintro e w3 ⟨rfl, hb⟩
  have K4 := Lib.hid (KT.new (KT.carry hb K3.out) 26 (nrm y))
  clear hb K3
  go_wp2_with fail
  obtain ⟨W, hW⟩ : ∃ W, W = w3.alloc (.cells #[.int .i64 (nrm y).1, .int .u64 (nrm y).2] 26) := ⟨_, rfl⟩
  obtain ⟨a3, h3⟩ : ∃ a, a = w2.heap.size := ⟨_, rfl⟩
  obtain ⟨a4, h4⟩ : ∃ a, a = w3.heap.size := ⟨_, rfl⟩
  rw [← hW, ← h3, ← h4]
  have T := Lib.hid (show KT w W [(a4, 26, nrm y), (a3, 26, nrm x), (a2, 24, nrm y), (a1, 24, nrm x)] by
    have := K4.out
    rw [h3, h4, hW]
    exact this)
  clear hW h3 h4 K4
  refine wp_region_quiet (C := fun w' => KT w w' [(a4, 26, nrm y), (a3, 26, nrm x), (a2, 24, nrm y), (a1, 24, nrm x)]) (by kernel_rfl) (by kernel_rfl) (KT.drew T.out) ?_
  repeat (
    with_reducible refine wpQuiet_step (fun K hK => ?_)
    go_simp
    first
      | (with_reducible refine hK _ ?_; clear hK K)
      | (apply Exists.intro
         refine ⟨fun v hv => ?_, hK _ ?_⟩
         (first
           | with_reducible rfl
           | (with_reducible show Calls _ _ _ _ _
              first
                | with_reducible refine Calls.mono (ws1 x y n HX.out HY.out HN.out v) ?_
                | with_reducible refine Calls.mono (ws2 x y n HX.out HY.out HN.out v) ?_
                | with_reducible refine Calls.mono (ws3 x y n HX.out HY.out HN.out v) ?_
                | with_reducible refine Calls.mono (ws4 x y n HX.out HY.out HN.out v) ?_
                | with_reducible refine Calls.mono (ws5 x y n HX.out HY.out HN.out v) ?_
                | with_reducible refine Calls.mono (ws6 x y n HX.out HY.out HN.out v) ?_
                | with_reducible refine Calls.mono (ws7 x y n HX.out HY.out HN.out v) ?_
                | with_reducible refine Calls.mono (ws8 x y n HX.out HY.out HN.out v) ?_
                | with_reducible refine Calls.mono (ws9 x y n HX.out HY.out HN.out v) ?_
                | with_reducible refine Calls.mono (ws10 x y n HX.out HY.out HN.out v) ?_
                | with_reducible refine Calls.mono (ws11 x y n HX.out HY.out HN.out v) ?_
                | with_reducible refine Calls.mono (ws12 x y n HX.out HY.out HN.out v) ?_
                | with_reducible refine Calls.mono (ws13 x y n HX.out HY.out HN.out v) ?_
                | with_reducible refine Calls.mono (ws14 x y n HX.out HY.out HN.out v) ?_
                | with_reducible refine Calls.mono (ws15 x y n HX.out HY.out HN.out v) ?_
                | with_reducible refine Calls.mono (ws16 x y n HX.out HY.out HN.out v) ?_
                | with_reducible refine Calls.mono (ws17 x y n HX.out HY.out HN.out v) ?_
                | with_reducible refine Calls.mono (ws18 x y n HX.out HY.out HN.out v) ?_
                | with_reducible refine Calls.mono (ws19 x y n HX.out HY.out HN.out v) ?_
              rintro e w' ⟨rfl, hb⟩
              exact ⟨rfl, KT.carry hb hv⟩)
           | (obtain ⟨c0, c1, f0, f1⟩ := (hv.1 (a1, 24, nrm x) (by simp)).c
              obtain ⟨c2, c3, f2, f3⟩ := (hv.1 (a2, 24, nrm y) (by simp)).c
              obtain ⟨c4, c5, f4, f5⟩ := (hv.1 (a3, 26, nrm x) (by simp)).c
              obtain ⟨c6, c7, f6, f7⟩ := (hv.1 (a4, 26, nrm y) (by simp)).c
              go_simp
              with_reducible rfl))
         clear hK K))
  with_reducible refine wpQuiet_nil ?_
  intro wf hk
  go_wp2
  exact bodyPost_ret (by simp [results, Try.results3, go_sem]) rfl ⟨rfl, hk.2⟩
theorem WideSums_at (a b c d n : Int) (w : World) (h1 : Rng a b) (h2 : Rng c d) (hn : I64 n) :
    Calls Try.prog 3 #[.agg #[.int .i64 a, .int .u64 b], .agg #[.int .i64 c, .int .u64 d], .int .i64 n] w fun e w' => e = .returned (.bool true) ∧ Below w.heap.size w w' := by
  have := WideSums_any (val a b) (val c d) n (val_Sm _ _ h1) (val_Sm _ _ h2) hn w
  rw [nrm_val a b h1, nrm_val c d h2] at this
  exact this

end Go.Proofs.Ytfbmdlheajclcaa.HWide
