/- slices.Clone of a row of scantling/hist.Item. -/
import Derived.Test.YtgafnilcmhjpcaaMem
import Derived.WalkKit
import Derived.WalkSpells
import Derived.Lib.Walk
import Derived.Lib.SliceRun
import Derived.Lib.AppendZeros
import Derived.Deep.AppendSrc
import Derived.Deep.Upon
namespace Go.Proofs.Ytgafnilcmhjpcaa.HItmCln
set_option linter.unusedVariables false
open Go.RowKit Go.Lib Go.Proofs.Ytgafnilcmhjpcaa.HMem

theorem info : (Try.prog.info? 105).map (fun i => (i.zero, i.size, i.bytes)) = some (some (.agg #[.int .i64 0, .int .u64 0]), 2, 16) := by kernel_rfl
theorem zc (m : Nat) : (Builtin.zeroCells (.agg #[.int .i64 0, .int .u64 0] : Value).cells m).size = m * 2 := by simp [Builtin.zeroCells, Value.cells]
/-- A row of its own. -/
def Cloned (w : World) (n : Nat) (xs : List Value) (e : Ending) (w' : World) : Prop := ∃ v', e = .returned v' ∧ ∃ G', Row 105 2 w' v' n xs G' ∧ (∀ g ∈ G', w.heap.size ≤ g) ∧ Below w.heap.size w w'
set_option maxHeartbeats 2000000 in
set_option maxRecDepth 20000 in
/-- slices.Clone of a row: a row of its own. -/
theorem any (w : World) (v : Value) (n : Nat) (xs : List Value) (G : List Nat) (hr : Row 105 2 w v n xs G) (hbig : n * 16 ≤ 140737488355328) (h1 : ∀ v ∈ xs, v.oneCell' = true) :
    Calls Try.prog 91 #[v] w (Cloned w n xs) := by
  have hnil := Lib.run_eql_slice_nil (P := Try.prog)
  rcases hr.2 with ⟨rfl, rfl, rfl⟩ | ⟨g, off, cap, cur, rfl, rfl, hg, hnc, hcm, hfit, htake⟩
  · obtain rfl : xs = [] := List.length_eq_zero_iff.1 (by simpa using hr.1)
    go_enter Try.func91, Try.ntmps91
    go_wp2
    go_ret
    exact ⟨_, rfl, [], Row.nil _ _ _, fun _ h => (by cases h), Below.refl _ _⟩
  · obtain ⟨i0, hi, hz0, hzs, hzb⟩ := info_parts info
    have hgw := heap_lt hg
    have hcell : ∀ j v, xs[j]? = some v → w.cell? ⟨g, off + j, none⟩ = some v := fun j v h => by
      rw [← htake, List.getElem?_take] at h
      split at h
      · rw [List.getElem?_drop] at h; simpa [World.cell?, hg] using h
      · cases h
    obtain ⟨N, hN⟩ : ∃ N, N = w.heap.size := ⟨_, rfl⟩
    obtain ⟨W, hW⟩ : ∃ W, W = w.alloc (.cells #[] 105) := ⟨_, rfl⟩
    have BW : Below w.heap.size w W := by rw [hW]; exact (Below.refl _ _).alloc (Nat.le_refl _) _
    have hcW : ∀ j v, xs[j]? = some v → W.cell? ⟨g, off + j, none⟩ = some v := fun j v h => (BW.cell (p := ⟨g, off + j, none⟩) hgw).trans (hcell j v h)
    have hWs : W.heap.size = N + 1 := by rw [hW, hN]; simp
    have hsrc : Src Try.prog i0.size 98 (.slice (some ⟨g, off, none⟩) n cap) n xs W := by
      rw [hzs]
      exact Src.ofSlice W Try.underlying98 ⟨g, off, none⟩ n cap xs hr.1 (fun j u hj => by rw [Addr.add_lit]; exact hcW j u hj) h1
    have hnew : W.heap[N]? = some (.cells #[] 105 (0, 0)) := by rw [hW, hN]; exact heap_alloc_new w _
    rcases Nat.eq_zero_or_pos n with h0 | hpos
    · subst h0
      obtain rfl : xs = [] := List.length_eq_zero_iff.1 (by simpa using hr.1)
      have hrun : ∀ ty, (Builtin.append_ #[98, 98] ty #[.slice (some ⟨N, 0, none⟩) 0 0, .slice (some ⟨g, off, none⟩) 0 cap]).run Try.prog W = .ok (.slice (some ⟨N, 0, none⟩) 0 0) W := fun ty =>
        run_append_nothing W 98 98 ty 105 i0 Try.underlying98 hi (some ⟨N, 0, none⟩) 0 0 (Nat.le_refl _) _ hsrc
      have hfin : ∃ G', Row 105 2 W (.slice (some ⟨N, 0, none⟩) 0 0) 0 [] G' ∧ (∀ g ∈ G', w.heap.size ≤ g) ∧ Below w.heap.size w W :=
        ⟨[N], ⟨rfl, .inr ⟨N, 0, 0, _, rfl, rfl, hnew, Nat.le_refl _, Nat.zero_le _, by simp, rfl⟩⟩, by simp [hN], BW⟩
      have HF := Lib.hid hfin
      clear hfin hsrc hcW hnew BW hWs hfit
      subst hN
      subst hW
      go_enter Try.func91, Try.ntmps91
      go_wp2_with (at_builtin; refine Lib.wpList_append_run _ rfl _ _ _ _ rfl _ _ rfl rfl _ _ (hrun _) ?_)
      go_ret
      exact ⟨_, rfl, HF.out⟩
    · obtain ⟨C, hC⟩ : ∃ C, C = grownCap W n 0 105 := ⟨_, rfl⟩
      obtain ⟨ROW, hROW⟩ : ∃ ROW : Array Value, ROW = xs.toArray ++ Builtin.zeroCells (.agg #[.int .i64 0, .int .u64 0] : Value).cells (C - n) := ⟨_, rfl⟩
      have hrun : ∀ ty, (Builtin.append_ #[98, 98] ty #[.slice (some ⟨N, 0, none⟩) 0 0, .slice (some ⟨g, off, none⟩) n cap]).run Try.prog W = .ok (.slice (some ⟨W.heap.size, 0, none⟩) n C) (W.drew.alloc (.cells ROW 105)) := fun ty => by
        have := run_append_grow_src W 98 98 ty 105 i0 _ Try.underlying98 hi hz0 (some ⟨N, 0, none⟩) 0 0 [] (by rw [hzs]; exact run_firstCells_some W.drew 2 0 ⟨N, 0, none⟩ 0 0 [] (by simp) (fun j v hj => by simp at hj)) _ n xs hsrc (by omega) (by omega) (by rw [hzb]; exact growslice_fits (by omega) (by simpa using hbig))
        rw [Nat.zero_add, List.nil_append, ← hC, ← hROW] at this
        exact this
      have hGn : n ≤ C := by rw [hC]; exact grownCap_ge W n 0 _
      have hGm : C ≤ maxLen := by rw [hC]; exact grownCap_le_maxLen W n 0 105 (by unfold maxLen; omega)
      have hfin : ∃ G', Row 105 2 (W.drew.alloc (.cells ROW 105)) (.slice (some ⟨N + 1, 0, none⟩) n C) n xs G' ∧ (∀ g ∈ G', w.heap.size ≤ g) ∧ Below w.heap.size w (W.drew.alloc (.cells ROW 105)) := by
        rw [← hWs]
        refine ⟨[W.heap.size], ⟨hr.1, .inr ⟨W.heap.size, 0, C, ROW, rfl, rfl, heap_alloc_new W.drew _, hGn, hGm, ?_, ?_⟩⟩, by simp [hWs, hN], BW.drew.alloc BW.size _⟩
        · rw [hROW]; simp only [Array.size_append, zc, List.size_toArray, hr.1]; omega
        · rw [hROW]; simp only [List.drop_zero, Array.toList_append]
          rw [take_len_append _ _ _ hr.1]
      have HF := Lib.hid hfin
      clear hfin hsrc hcW hnew BW hGn hGm hfit hC hROW
      clear hWs
      subst hN
      subst hW
      go_enter Try.func91, Try.ntmps91
      go_wp2_with (at_builtin; refine Lib.wpList_append_run _ rfl _ _ _ _ rfl _ _ rfl rfl _ _ (hrun _) ?_)
      go_ret
      exact ⟨_, rfl, HF.out⟩

end Go.Proofs.Ytgafnilcmhjpcaa.HItmCln
