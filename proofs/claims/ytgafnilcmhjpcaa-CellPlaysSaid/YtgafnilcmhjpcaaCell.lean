/- Cells in memory: what their blocks hold; New, From, Sum, Bounds, take, walked. Conditions: the numbers are of their kinds' ranges. -/
import Derived.Test.YtgafnilcmhjpcaaHistUse
import Derived.Test.YtgafnilcmhjpcaaWd
import Derived.Test.YtgafnilcmhjpcaaQTail
import Derived.Test.YtgafnilcmhjpcaaCaught
import Derived.BigRegion
import Derived.BigQuiet
import Derived.Deep.CutBlock
import Derived.Deep.DeepCutAuto
namespace Go.Proofs.Ytgafnilcmhjpcaa.HCell
set_option linter.unusedVariables false
open Go.RowKit Go.Proofs.Ytgafnilcmhjpcaa.HMem Go.Proofs.Ytgafnilcmhjpcaa.HHist Go.Proofs.Ytgafnilcmhjpcaa.HWide
open Go.Proofs.Ytgafnilcmhjpcaa.Print (I64)

/-- What a cell holds: where it begins, its sum, the least, the most, its histogram. -/
structure CM where
  fr : Int
  s : Int × Int
  lo : Int
  hi : Int
  b : Nat
  l : IL
structure COk (c : CM) : Prop where
  h : HOk c.b c.l
  rng : Rng c.s.1 c.s.2
  fr : I64 c.fr
  lo : I64 c.lo
  hi : I64 c.hi
/-- A cell's own block. -/
def Cb (w : World) (p h : Nat) (c : CM) : Prop :=
  w.heap[p]? = some (.cells #[.pointer (some ⟨h, 0, none⟩), .int .i64 c.fr, .int .i64 c.s.1, .int .u64 c.s.2, .int .i64 c.lo, .int .i64 c.hi] 55 (0, 0))
theorem Cb.cells {w : World} {p h : Nat} {c : CM} (k : Cb w p h c) : w.cell? ⟨p, 0, none⟩ = some (.pointer (some ⟨h, 0, none⟩)) ∧ w.cell? ⟨p, 1, none⟩ = some (.int .i64 c.fr) ∧ w.cell? ⟨p, 2, none⟩ = some (.int .i64 c.s.1) ∧
    w.cell? ⟨p, 3, none⟩ = some (.int .u64 c.s.2) ∧ w.cell? ⟨p, 4, none⟩ = some (.int .i64 c.lo) ∧ w.cell? ⟨p, 5, none⟩ = some (.int .i64 c.hi) := by
  unfold Cb at k
  simp [World.cell?, k]
theorem Cb.frozen {w : World} {p h : Nat} {c : CM} (k : Cb w p h c) (i : Nat) : w.frozen? ⟨p, i, none⟩ = false := by
  unfold Cb at k
  simp [World.frozen?, k]
theorem Cb.lt {w : World} {p h : Nat} {c : CM} (k : Cb w p h c) : p < w.heap.size := heap_lt k
theorem Cb.mono {w w' : World} {p h : Nat} {c : CM} (k : Cb w p h c) (b : Below w.heap.size w w') : Cb w' p h c := by
  unfold Cb
  rw [b.block p k.lt]
  exact k
theorem Cb.lo {w : World} {p h : Nat} {c : CM} (k : Cb w p h c) (x : Int) : Cb (w.setCell ⟨p, 4, none⟩ (.int .i64 x)) p h { c with lo := x } := set_at k 4 _
theorem Cb.hi {w : World} {p h : Nat} {c : CM} (k : Cb w p h c) (x : Int) : Cb (w.setCell ⟨p, 5, none⟩ (.int .i64 x)) p h { c with hi := x } := set_at k 5 _
theorem Cb.s1 {w : World} {p h : Nat} {c : CM} (k : Cb w p h c) (x : Int) : Cb (w.setCell ⟨p, 2, none⟩ (.int .i64 x)) p h { c with s := (x, c.s.2) } := set_at k 2 _
theorem Cb.s2 {w : World} {p h : Nat} {c : CM} (k : Cb w p h c) (x : Int) : Cb (w.setCell ⟨p, 3, none⟩ (.int .u64 x)) p h { c with s := (c.s.1, x) } := set_at k 3 _
/-- A cell: its block, and its histogram's. -/
structure CellAt (w : World) (p : Nat) (G : List Nat) (c : CM) : Prop where
  ex : ∃ h R, G = p :: R ∧ p ∉ R ∧ Cb w p h c ∧ HistAt w h R c.b c.l
theorem CellAt.same {w w' : World} {p : Nat} {G : List Nat} {c : CM} (k : CellAt w p G c) (s : Same G w w') : CellAt w' p G c := by
  obtain ⟨h, R, rfl, h1, h2, h3⟩ := k.ex
  refine ⟨h, R, rfl, h1, ?_, h3.same (s.sub fun k hk => by simp [hk])⟩
  unfold Cb
  rw [s p (by simp)]
  exact h2
theorem CellAt.own {w : World} {p : Nat} {G : List Nat} {c : CM} (k : CellAt w p G c) : Own 0 w G := by
  obtain ⟨h, R, rfl, h1, h2, h3⟩ := k.ex
  refine ⟨List.nodup_cons.2 ⟨h1, h3.own.nodup⟩, fun g hg => ?_⟩
  rcases List.mem_cons.1 hg with rfl | hg
  · exact ⟨Nat.zero_le _, h2.lt⟩
  · exact h3.own.mem g hg
theorem CellAt.mono {w w' : World} {p : Nat} {G : List Nat} {c : CM} (k : CellAt w p G c) (b : Below w.heap.size w w') : CellAt w' p G c := k.same (Same.own b k.own)
/-- A cell of no numbers. -/
def newC (fr : Int) (b : Nat) : CM := ⟨fr, (0, 0), 0, 0, b, []⟩
theorem COk.new (fr : Int) (b : Nat) (hf : I64 fr) (hb : b ≤ 4) : COk (newC fr b) :=
  ⟨HOk.nil hb, show Rng 0 0 by unfold Rng; omega, hf, show I64 0 by unfold Print.I64; omega, show I64 0 by unfold Print.I64; omega⟩
theorem New_yes (fr : Int) (b : Nat) (w : World) (hb : b ≤ 4) :
    Calls Try.prog 32 #[.int .i64 fr, .int .i64 b] w fun e w' => ∃ p G, e = .returned (.tuple #[.pointer (some ⟨p, 0, none⟩), .int .i64 0]) ∧ CellAt w' p G (newC fr b) ∧ (∀ g ∈ G, w.heap.size ≤ g) ∧ Below w.heap.size w w' := by
  go_enter Try.func32, Try.ntmps32
  go_wp2_with fail
  refine (HHist.New_yes b w hb).mono ?_
  rintro e w1 ⟨rfl, h1, b1⟩
  obtain ⟨h, hh⟩ : ∃ h, h = w.heap.size := ⟨_, rfl⟩
  rw [← hh] at h1 ⊢
  have H1 := Lib.hid h1
  have B1 := Lib.hid b1
  have HH := Lib.hid hh
  clear h1 b1 hh
  go_wp2
  go_ret2
  have hm := H1.out.own.mem h H1.out.mem
  refine ⟨_, w1.heap.size :: [h], rfl, ⟨⟨h, [h], rfl, by simp; omega, heap_alloc_new w1 _, H1.out.mono ((Below.refl _ _).alloc (Nat.le_refl _) _)⟩⟩, fun g hg => ?_, by rw [HH.out]; exact B1.out.alloc B1.out.size _⟩
  simp at hg
  have := B1.out.size
  rcases hg with rfl | rfl
  · exact this
  · exact Nat.le_of_eq HH.out.symm
theorem New_no (fr b : Int) (w : World) (hb : b < 0 ∨ 4 < b) :
    Calls Try.prog 32 #[.int .i64 fr, .int .i64 b] w fun e w' => e = .returned (.tuple #[.pointer none, .int .i64 1]) ∧ Below w.heap.size w w' := by
  go_enter Try.func32, Try.ntmps32
  go_wp2_with fail
  refine (HHist.New_no b w hb).mono ?_
  rintro e w1 ⟨rfl, rfl⟩
  go_wp2
  go_ret2
  exact ⟨rfl, Below.refl _ _⟩
theorem From_any {w : World} {p h : Nat} {c : CM} (k : Cb w p h c) :
    Calls Try.prog 31 #[.pointer (some ⟨p, 0, none⟩)] w fun e w' => e = .returned (.int .i64 c.fr) ∧ Below w.heap.size w w' := by
  obtain ⟨c0, c1, c2, c3, c4, c5⟩ := k.cells
  clear k
  go_enter Try.func31, Try.ntmps31
  go_wp2
  go_ret
  exact ⟨rfl, Below.refl _ _⟩
theorem Sum_any {w : World} {p h : Nat} {c : CM} (k : Cb w p h c) :
    Calls Try.prog 30 #[.pointer (some ⟨p, 0, none⟩)] w fun e w' => e = .returned (.agg #[.int .i64 c.s.1, .int .u64 c.s.2]) ∧ Below w.heap.size w w' := by
  obtain ⟨c0, c1, c2, c3, c4, c5⟩ := k.cells
  have hlt := k.lt
  have d2 : ∀ o, (w.alloc o).cell? ⟨p, 2, none⟩ = some (.int .i64 c.s.1) := fun o => (((Below.refl _ _).alloc (Nat.le_refl _) o).cell hlt).trans c2
  have d3 : ∀ o, (w.alloc o).cell? ⟨p, 3, none⟩ = some (.int .u64 c.s.2) := fun o => (((Below.refl _ _).alloc (Nat.le_refl _) o).cell hlt).trans c3
  clear k hlt
  go_enter Try.func30, Try.ntmps30
  go_wp2
  refine bodyPost_ret (v := .agg #[.int .i64 c.s.1, .int .u64 c.s.2]) (by simp [results, Try.results30, go_sem]) rfl ⟨rfl, ?_⟩
  exact (Below.refl _ w).alloc (Nat.le_refl _) _
set_option maxHeartbeats 1000000 in
theorem Bounds_any {w : World} {p : Nat} {G : List Nat} {c : CM} (k : CellAt w p G c) :
    Calls Try.prog 18 #[.pointer (some ⟨p, 0, none⟩)] w fun e w' => e = .returned (.tuple #[.int .i64 c.lo, .int .i64 c.hi, .bool (decide (0 < total c.l))]) ∧ Below w.heap.size w w' := by
  obtain ⟨h, R, rfl, h1, h2, h3⟩ := k.ex
  obtain ⟨c0, c1, c2, c3, c4, c5⟩ := h2.cells
  have KC := Lib.hid (show ∀ v, Below w.heap.size w v → Calls Try.prog 28 #[.pointer (some ⟨h, 0, none⟩)] v fun e w' => e = .returned (.int .u64 (total c.l : Nat)) ∧ Below v.heap.size v w' from fun v hv =>
    (Count_any (h3.mono hv)).mono fun e w' ⟨a, b⟩ => ⟨a, by subst b; exact Below.refl _ _⟩)
  obtain ⟨t, ht⟩ : ∃ t, t = total c.l := ⟨_, rfl⟩
  rw [← ht] at KC ⊢
  obtain ⟨q, hq⟩ : ∃ q, q = decide (0 < t) := ⟨_, rfl⟩
  rw [← hq]
  have eq : decide ((0 : Int) < (t : Int)) = q := by rw [hq]; by_cases h : 0 < t <;> simp [h]
  have HQ := Lib.hid hq
  clear k h1 h2 h3 ht hq eq
  go_enter Try.func18, Try.ntmps18
  go_wp2_with fail
  refine wp_region_quiet (C := fun w' => Below w.heap.size w w') (by kernel_rfl) (by kernel_rfl) ((Below.refl _ _).drew) ?_
  repeat (
    with_reducible refine wpQuiet_step (fun K hK => ?_)
    go_simp
    first
      | (with_reducible refine hK _ ?_; clear hK K)
      | (refine hK _ ?_; clear hK K)
      | (apply Exists.intro
         refine ⟨fun v hv => ?_, hK _ ?_⟩
         (first
           | with_reducible rfl
           | (with_reducible show Calls _ _ _ _ _
              first
                | with_reducible refine Calls.mono (KC.out _ hv) ?_
              rintro e w' ⟨rfl, hb⟩
              exact ⟨rfl, hv.trans (hb.mono hv.size)⟩)
           | (have d0 := (hv.cell (World.block_lt_of_cell? _ _ c0)).trans c0
              have d1 := (hv.cell (World.block_lt_of_cell? _ _ c4)).trans c4
              have d2 := (hv.cell (World.block_lt_of_cell? _ _ c5)).trans c5
              go_simp
              with_reducible rfl))
         clear hK K))
  refine wpQuiet_nil ?_
  intro wf hk
  clear c0 c1 c2 c3 c4 c5
  go_wp2
  go_ret3
  exact ⟨by rw [HQ.out]; rfl, hk⟩
end Go.Proofs.Ytgafnilcmhjpcaa.HCell
