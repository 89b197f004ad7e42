/- slices.Insert of one element into a slice of scantling/hist.Item: in place, at the end, in a new row. No conditions but sizes. -/
import Derived.Test.YtgafnilcmhjpcaaMem
import Derived.WalkKit
import Derived.Lib.Walk
import Derived.Lib.SliceRun
import Derived.Lib.JoinLaws
import Derived.Lib.AppendZeros
import Derived.Lib.AppendZerosOnto
import Derived.Lib.Overlaps
import Derived.Laws.Externs
import Derived.Laws.IdiomCopy
import Derived.Laws.NewBlocks
import Derived.Deep.RegionLaw
namespace Go.Proofs.Ytgafnilcmhjpcaa.HItmIns
set_option linter.unusedVariables false
set_option linter.unusedSimpArgs false
open Go.RowKit Go.Lib Go.Proofs.Ytgafnilcmhjpcaa.HMem

theorem info : (Try.prog.info? 105).map (fun i => (i.zero, i.size, i.bytes)) = some (some (.agg #[.int .i64 0, .int .u64 0]), 2, 16) := by kernel_rfl
theorem size_ (w : World) : (Go.sizeOf 105).run Try.prog w = .ok 2 w := by kernel_rfl
theorem run_copyK (w : World) (ty : TypeId) (b o dLen dCap : Nat) (a : Addr) (sLen sCap : Nat) (cs : List Value)
    (hn : cs.length = Nat.min sLen dLen * 2) (hsrc : ∀ j v, cs[j]? = some v → w.cell? (a.add j) = some v) (cur : Array Value) (t : TypeId) (hg : w.heap[b]? = some (.cells cur t (0, 0))) (hfit : o + cs.length ≤ cur.size) (h1 : ∀ v ∈ cs, v.oneCell' = true) :
    (Builtin.copy_ #[98, 98] ty #[.slice (some ⟨b, o, none⟩) dLen dCap, .slice (some a) sLen sCap]).run Try.prog w = .ok (goInt (Nat.min sLen dLen)) (w.setRow b (cur.toList.take o ++ cs ++ cur.toList.drop (o + cs.length)).toArray) := by
  have hl := run_loadCells_list (P := Try.prog) w a cs hsrc
  have hst := run_storeCells_at Try.prog b o t cs 0 cur w hg (by simpa using hfit) h1
  obtain ⟨i, hi, hz0, hzs, hzb⟩ := info_parts info
  simp [Builtin.copy_, run_underlying Try.underlying98, Builtin.lenOf, Builtin.firstCells, sizeOf, typeInfo, hi, hzs, ← hn, hl, hst]
theorem wp_copy_runI (w : World) {o : Oper} {a : Act} {K : Act → World → Prop} {Q : Exit → Act → World → Prop} (d s : Operand) (t t' : TypeId)
    (ho : o.op = .call { callee := .builtin .copy, args := #[d, s], argTypes := #[t, t'] }) (v u : Value) (hd : a.eval d = v) (hs : a.eval s = u) {v' : Value} {w' : World}
    (hr : (Builtin.copy_ #[t, t'] o.type #[v, u]).run Try.prog w = .ok v' w') (h : K (a.put o.dst v') w') : o.wp Try.prog a w K Q := by
  unfold Oper.wp execOp
  simp only [ho, resolve, invoke, builtin, Sem.run_bind, Sem.run_pure, Result.andThen_ok, List.map_toArray, List.map_cons, List.map_nil, hd, hs, hr]
  exact h
theorem wpList_copy_runI (w : World) {ops : Array Oper} {rest : List Oper} {o : Oper} {a : Act} {Q : Exit → Act → World → Prop} (hgd : o.guard = none) (d s : Operand) (t t' : TypeId)
    (ho : o.op = .call { callee := .builtin .copy, args := #[d, s], argTypes := #[t, t'] }) (v u : Value) (hd : a.eval d = v) (hs : a.eval s = u) {v' : Value} {w' : World}
    (hr : (Builtin.copy_ #[t, t'] o.type #[v, u]).run Try.prog w = .ok v' w') (h : wpList Try.prog ops Q rest (a.put o.dst v') w') : wpList Try.prog ops Q (o :: rest) a w :=
  wpList_plain hgd fun _ hK => wp_copy_runI w d s t t' ho v u hd hs hr (hK _ _ h)
theorem step_copy_runI {ops : Array Oper} {o : Oper} {a : Act} {w : World} {K : Act → World → Prop} {Q : Exit → Act → World → Prop} {E : Prop}
    (hg : o.guard = none) (d x : Operand) (dT sT : TypeId) (hop : o.op = Op.call { callee := Callee.builtin Builtin.copy, args := #[d, x], argTypes := #[dT, sT] })
    (v u : Value) (hd : a.eval d = v) (hx : a.eval x = u) {v' : Value} {w' : World} (hr : (Builtin.copy_ #[dT, sT] o.type #[v, u]).run Try.prog w = .ok v' w') (hK : K (a.put o.dst v') w') :
    if Region.wanted o (yielded ops a.tmps) = true then Oper.wp Try.prog o a w K Q else E := by
  have hw : Region.wanted o (yielded ops a.tmps) = true := by simp [Region.wanted, hg]
  rw [if_pos hw]
  unfold Oper.wp
  simp [execOp, hop, resolve, invoke, builtin, hd, hx, hr, Result.andThen]
  exact hK
theorem setRow_at (w : World) (b : Nat) (cs cur : Array Value) (t : TypeId) (hg : w.heap[b]? = some (.cells cur t (0, 0))) : (w.setRow b cs).heap[b]? = some (.cells cs t (0, 0)) := setRow_heap w b _ _ t _ hg

set_option maxHeartbeats 4000000 in
set_option maxRecDepth 100000 in
/-- There is room, i < len(s): in place. -/
theorem shift (b off n c i vb : Nat) (cur : Array Value) (cs news : List Value) (w : World) (hi : i < n) (hroom : n + 1 ≤ c) (hc63 : c ≤ 9223372036854775807) (hvb : vb ≠ b)
    (hcl : cs.length = n * 2) (hvl : news.length = 2) (hg : w.heap[b]? = some (.cells cur 105 (0, 0))) (hfit : off + c * 2 ≤ cur.size) (hcs : ∀ j v, cs[j]? = some v → cur[off + j]? = some v)
    (hgv : w.heap[vb]? = some (.cells news.toArray 105 (0, 0))) (h1c : ∀ v ∈ cs, v.oneCell' = true) (h1v : ∀ v ∈ news, v.oneCell' = true)
    (C1 C2 : Array Value) (hC1 : C1 = (cur.toList.take (off + (i + 1) * 2) ++ cs.drop (i * 2) ++ cur.toList.drop (off + (i + 1) * 2 + (cs.drop (i * 2)).length)).toArray)
    (hC2 : C2 = (C1.toList.take (off + i * 2) ++ news ++ C1.toList.drop (off + i * 2 + news.length)).toArray) :
    Calls Try.prog 83 #[.slice (some ⟨b, off, none⟩) n c, .int .i64 i, .slice (some ⟨vb, 0, none⟩) 1 1] w fun e w' =>
      e = .returned (.slice (some ⟨b, off, none⟩) (n + 1) c) ∧ w' = (w.drew.setRow b C1).setRow b C2 := by
  have hov : ∀ lb cb, (callFunc 94 #[.slice (some ⟨vb, 0, none⟩) 1 1, .slice (some ⟨b, off + (i + 1) * 2, none⟩) lb cb]).run Try.prog w = .ok (.value (.bool false)) w := fun lb cb => by
    have hkB : cur.size ≠ 0 := by omega
    rw [run_callFunc_extern Try.func94 (by kernel_rfl) (by kernel_rfl) (by kernel_rfl) (e := Extern.SlicesOverlaps.overlaps #[98, 98] #[4]) (by kernel_rfl),
      Lib.run_overlaps_apart w 98 4 105 Try.underlying98 2 size_ ⟨vb, 0, none⟩ ⟨b, off + (i + 1) * 2, none⟩ 1 1 lb cb hvb 105 105 news.toArray.size cur.size (by simp [World.shape?, hgv]) (by simp [World.shape?, hg]) hkB (by simp [World.frozen?, hgv]) (by simp [World.frozen?, hgv])]
    rfl
  have hdl : (cs.drop (i * 2)).length = (n - i) * 2 := by rw [List.length_drop, hcl]; omega
  have hw1 : IntKind.i64.wrap ((i : Int) + 1) = (i : Int) + 1 := by rw [IntKind.wrap_i64]; omega
  have hb1 : (0 : Int) ≤ (i : Int) + 1 := by omega
  have hz2 : ¬ ((i : Int) = (n : Int)) := by omega
  have hz2' : ((i : Int) == (n : Int)) = false := by rw [beq_eq_false_iff_ne]; exact hz2
  have hin : i ≤ n := by omega
  have htn : ((i : Int) + 1).toNat = i + 1 := by omega
  have hb2 : ¬ (c = i + 1) := by omega
  have hb3 : (i : Int) ≤ (n : Int) + 1 := by omega
  have hb4 : ¬ (c = i) := by omega
  have hC1s : C1.size = cur.size := by rw [hC1]; simp [hcl]; omega
  have hcp1 : ∀ ty dc sc, (Builtin.copy_ #[98, 98] ty #[.slice (some ⟨b, off + (i + 1) * 2, none⟩) (n - i) dc, .slice (some ⟨b, off + i * 2, none⟩) (n + 1 - i) sc]).run Try.prog w.drew = .ok (goInt ((n - i : Nat) : Int)) (w.drew.setRow b C1) := fun ty dc sc => by
    have hm : Nat.min (n + 1 - i) (n - i) = n - i := by simp only [Nat.min_def]; split <;> omega
    have := run_copyK w.drew ty b (off + (i + 1) * 2) (n - i) dc ⟨b, off + i * 2, none⟩ (n + 1 - i) sc (cs.drop (i * 2)) (by rw [hdl, hm])
      (fun j v hj => by
        rw [Addr.add_lit, Nat.add_assoc]
        rw [List.getElem?_drop] at hj
        have := hcs _ v hj
        show World.cell? w _ = _
        simp [World.cell?, hg, this]) cur _ (by exact hg) (by rw [hdl]; omega) (fun v hv => h1c v (List.mem_of_mem_drop hv))
    rw [hm, ← hC1] at this
    exact this
  obtain ⟨W1, hW1⟩ : ∃ W1, W1 = w.drew.setRow b C1 := ⟨_, rfl⟩
  have hg1 : W1.heap[b]? = some (.cells C1 105 (0, 0)) := by rw [hW1]; exact setRow_at _ _ _ cur _ hg
  have hgv1 : W1.heap[vb]? = some (.cells news.toArray 105 (0, 0)) := by rw [hW1, setRow_other _ b vb _ hvb]; exact hgv
  have hcp2 : ∀ (W : World), W = W1 → ∀ ty dc, (Builtin.copy_ #[98, 98] ty #[.slice (some ⟨b, off + i * 2, none⟩) (n + 1 - i) dc, .slice (some ⟨vb, 0, none⟩) 1 1]).run Try.prog W = .ok (goInt 1) (W.setRow b C2) := fun W hW ty dc => by
    subst hW
    have hm : Nat.min 1 (n + 1 - i) = 1 := by simp only [Nat.min_def]; split <;> omega
    have := run_copyK W ty b (off + i * 2) (n + 1 - i) dc ⟨vb, 0, none⟩ 1 1 news (by rw [hvl, hm])
      (fun j v hj => by rw [Addr.add_lit, Nat.zero_add]; simp [World.cell?, hgv1, hj]) C1 _ hg1 (by rw [hvl, hC1s]; omega) h1v
    rw [hm, ← hC2] at this
    exact this
  rw [← hW1] at hcp1 ⊢
  clear hC1 hC2 hW1
  go_enter Try.func83, Try.ntmps83
  go_wp2_with (simp only [hov])
  go_region_law (refine step_copy_runI rfl _ _ 98 98 rfl _ _ (by simp [Act.eval, Act.put]) (by simp [Act.eval, Act.put]) (hcp1 _ _ _) ?_)
  go_wp2_with (at_builtin; refine wpList_copy_runI _ rfl _ _ 98 98 rfl _ _ rfl rfl (hcp2 _ rfl _ _) ?_)
  go_ret
  exact ⟨rfl, rfl⟩

theorem src (w : World) (vb : Nat) (news : List Value) (hvl : news.length = 2) (hgv : w.heap[vb]? = some (.cells news.toArray 105 (0, 0))) (h1v : ∀ v ∈ news, v.oneCell' = true) : Src Try.prog 2 98 (.slice (some ⟨vb, 0, none⟩) 1 1) 1 news w :=
  Src.ofSlice w Try.underlying98 ⟨vb, 0, none⟩ 1 1 news (by rw [hvl]) (fun j u hj => by rw [Addr.add_lit, Nat.zero_add]; simp [World.cell?, hgv, hj]) h1v

set_option maxHeartbeats 4000000 in
set_option maxRecDepth 100000 in
/-- At the end, there is room: in place. -/
theorem endRoom (b off n c vb : Nat) (cur : Array Value) (news : List Value) (w : World) (hroom : n + 1 ≤ c) (hc63 : c ≤ 9223372036854775807)
    (hvl : news.length = 2) (hg : w.heap[b]? = some (.cells cur 105 (0, 0))) (hfit : off + c * 2 ≤ cur.size) (hgv : w.heap[vb]? = some (.cells news.toArray 105 (0, 0))) (h1v : ∀ v ∈ news, v.oneCell' = true) :
    Calls Try.prog 83 #[.slice (some ⟨b, off, none⟩) n c, .int .i64 n, .slice (some ⟨vb, 0, none⟩) 1 1] w fun e w' =>
      e = .returned (.slice (some ⟨b, off, none⟩) (n + 1) c) ∧ w' = w.setCells b (off + n * 2) news := by
  obtain ⟨i0, hi, hz0, hzs, hzb⟩ := info_parts info
  have hsrc := src w vb news hvl hgv h1v
  rw [← hzs] at hsrc
  have hrun : ∀ ty, (Builtin.append_ #[98, 98] ty #[.slice (some ⟨b, off, none⟩) n c, .slice (some ⟨vb, 0, none⟩) 1 1]).run Try.prog w = .ok (.slice (some ⟨b, off, none⟩) (n + 1) c) (w.setCells b (off + n * 2) news) := fun ty => by
    have := run_append_room_src w 98 98 ty 105 i0 Try.underlying98 hi b off n c _ 1 news hsrc hroom (fun j hj => by rw [hzs]; simp [World.cell?, hg]; omega) (fun j hj => by simp [World.frozen?, hg])
    rw [hzs] at this
    exact this
  go_enter Try.func83, Try.ntmps83
  go_wp2_with (at_builtin; refine Lib.wpList_append_run _ rfl _ _ _ _ rfl _ _ rfl rfl _ _ (hrun _) ?_)
  go_ret
  exact ⟨rfl, rfl⟩

set_option maxHeartbeats 4000000 in
set_option maxRecDepth 100000 in
/-- At the end, no room: a new row. -/
theorem endGrow (base : Option Addr) (n c vb : Nat) (cs news : List Value) (w : World) (hnc : n ≤ c) (hroom : c < n + 1) (hbig : (n + 1) * 16 ≤ 140737488355328)
    (hcl : cs.length = n * 2) (hvl : news.length = 2) (hnil : base = none → n = 0) (hcs : ∀ a, base = some a → a.spot = none ∧ ∀ j v, cs[j]? = some v → w.cell? (a.add j) = some v)
    (hgv : w.heap[vb]? = some (.cells news.toArray 105 (0, 0))) (h1v : ∀ v ∈ news, v.oneCell' = true) :
    Calls Try.prog 83 #[.slice base n c, .int .i64 n, .slice (some ⟨vb, 0, none⟩) 1 1] w fun e w' =>
      e = .returned (.slice (some ⟨w.heap.size, 0, none⟩) (n + 1) (grownCap w (n + 1) c 105)) ∧
      w' = w.drew.alloc (.cells ((cs ++ news).toArray ++ Builtin.zeroCells (.agg #[.int .i64 0, .int .u64 0] : Value).cells (grownCap w (n + 1) c 105 - (n + 1))) 105) := by
  obtain ⟨i0, hi, hz0, hzs, hzb⟩ := info_parts info
  have hsrc := src w vb news hvl hgv h1v
  rw [← hzs] at hsrc
  have hold : (Builtin.firstCells i0.size n (.slice base n c)).run Try.prog w.drew = .ok cs.toArray w.drew := by
    rw [hzs]
    cases base with
    | none =>
      have h0 := hnil rfl
      subst h0
      obtain rfl : cs = [] := List.length_eq_zero_iff.1 (by simpa using hcl)
      exact run_firstCells_none w.drew 2 0 0 c
    | some a => exact run_firstCells_some w.drew 2 n a n c cs (by omega) (fun j v hj => (hcs a rfl).2 j v hj)
  have hrun : ∀ ty, (Builtin.append_ #[98, 98] ty #[.slice base n c, .slice (some ⟨vb, 0, none⟩) 1 1]).run Try.prog w = _ := fun ty =>
    run_append_grow_src w 98 98 ty 105 i0 _ Try.underlying98 hi hz0 base n c cs hold _ 1 news hsrc hroom (by omega) (by rw [hzb]; exact growslice_fits hroom hbig)
  go_enter Try.func83, Try.ntmps83
  cases base with
  | none =>
    have h0 := hnil rfl
    subst h0
    go_wp2_with (at_builtin; refine Lib.wpList_append_run _ rfl _ _ _ _ rfl _ _ rfl rfl _ _ (hrun _) ?_)
    go_ret
    exact ⟨rfl, rfl⟩
  | some a =>
    obtain ⟨ab, ao, asp⟩ := a
    obtain ⟨rfl, _⟩ := hcs _ rfl
    go_wp2_with (at_builtin; refine Lib.wpList_append_run _ rfl _ _ _ _ rfl _ _ rfl rfl _ _ (hrun _) ?_)
    all_goals (go_ret; exact ⟨rfl, rfl⟩)

set_option maxHeartbeats 4000000 in
set_option maxRecDepth 100000 in
/-- In the midst, no room: a new row. -/
theorem grow (b off n c i vb : Nat) (cs news : List Value) (w : World) (hi : i < n) (hnc : n ≤ c) (hroom : c < n + 1) (hbig : (n + 1) * 16 ≤ 140737488355328)
    (hcl : cs.length = n * 2) (hvl : news.length = 2) (hcs : ∀ j v, cs[j]? = some v → w.cell? ⟨b, off + j, none⟩ = some v) (hbw : b < w.heap.size)
    (hgv : w.heap[vb]? = some (.cells news.toArray 105 (0, 0))) (h1c : ∀ v ∈ cs, v.oneCell' = true) (h1v : ∀ v ∈ news, v.oneCell' = true) 
    (G : Nat) (ROW C1 C2 : Array Value) (hG : G = grownCap w (n + 1) c 105) (hROW : ROW = (cs.take (i * 2)).toArray ++ Builtin.zeroCells (.agg #[.int .i64 0, .int .u64 0] : Value).cells (n + 1 - i) ++ Builtin.zeroCells (.agg #[.int .i64 0, .int .u64 0] : Value).cells (G - (n + 1)))
    (hC1 : C1 = (ROW.toList.take (i * 2) ++ news ++ ROW.toList.drop (i * 2 + news.length)).toArray)
    (hC2 : C2 = (C1.toList.take ((i + 1) * 2) ++ cs.drop (i * 2) ++ C1.toList.drop ((i + 1) * 2 + (cs.drop (i * 2)).length)).toArray) (hRl : (n + 1) * 2 ≤ ROW.size) :
    Calls Try.prog 83 #[.slice (some ⟨b, off, none⟩) n c, .int .i64 i, .slice (some ⟨vb, 0, none⟩) 1 1] w fun e w' =>
      e = .returned (.slice (some ⟨w.heap.size, 0, none⟩) (n + 1) G) ∧ ∃ W1, W1 = (w.drew.alloc (.cells ROW 105)).setRow w.heap.size C1 ∧ w' = (W1.drew).setRow w.heap.size C2 := by
  obtain ⟨i0, hi0, hz0, hzs, hzb⟩ := info_parts info
  have hz2 : ¬ ((i : Int) = (n : Int)) := by omega
  have hz2' : ((i : Int) == (n : Int)) = false := by rw [beq_eq_false_iff_ne]; exact hz2
  have hz3 : (c : Int) < (n : Int) + 1 := by omega
  have hvw : vb < w.heap.size := heap_lt hgv
  have hkk : (n : Int) + 1 - (i : Int) = ((n + 1 - i : Nat) : Int) := by omega
  have hik : i + (n + 1 - i) = n + 1 := by omega
  have hold : (Builtin.firstCells i0.size i (.slice (some ⟨b, off, none⟩) i c)).run Try.prog w.drew = .ok (cs.take (i * 2)).toArray w.drew := by
    rw [hzs]
    exact run_firstCells_some w.drew 2 i ⟨b, off, none⟩ i c (cs.take (i * 2)) (by rw [List.length_take]; omega) (fun j v hj => by
      rw [Addr.add_lit]
      rw [List.getElem?_take] at hj
      split at hj
      · exact hcs j v hj
      · cases hj)
  have hrz : ∀ ty, (Builtin.append_ #[98, 3] ty #[.slice (some ⟨b, off, none⟩) i c, .int .i64 ((n : Int) + 1 - (i : Int))]).run Try.prog w =
      .ok (.slice (some ⟨w.heap.size, 0, none⟩) (n + 1) G) (w.drew.alloc (.cells ROW 105)) := fun ty => by
    have h := Lib.run_append_grow_zeros w 98 3 ty 105 i0 _ .i64 .i64 Try.underlying98 Try.underlying3 hi0 hz0 (some ⟨b, off, none⟩) i c (cs.take (i * 2)) hold (n + 1 - i) (by omega) (by omega) (by omega) (by omega) (by rw [hzb]; omega) (by rw [hzb, hik]; exact growslice_fits hroom hbig)
    rw [hik, ← hG, ← hROW] at h
    rw [hkk]
    exact h
  obtain ⟨W0, hW0⟩ : ∃ W0, W0 = w.drew.alloc (.cells ROW 105) := ⟨_, rfl⟩
  obtain ⟨N, hN⟩ : ∃ N, N = w.heap.size := ⟨_, rfl⟩
  have hgr : W0.heap[N]? = some (.cells ROW 105 (0, 0)) := by rw [hW0, hN]; exact heap_alloc_new w.drew _
  have hgv0 : W0.heap[vb]? = some (.cells news.toArray 105 (0, 0)) := by rw [hW0, Below.heap_alloc w.drew _ vb hvw]; exact hgv
  have hob : ∀ j v, w.cell? ⟨b, j, none⟩ = some v → W0.cell? ⟨b, j, none⟩ = some v := fun j v h => by rw [hW0, World.cell?_alloc_past (w := w.drew) _ b j hbw]; exact h
  have hC1s : C1.size = ROW.size := by rw [hC1]; simp [hvl]; omega
  have hGn : n + 1 ≤ G := by rw [hG]; exact grownCap_ge w _ _ _
  have hG63 : G ≤ 9223372036854775807 := by
    have := grownCap_le_maxLen w (n + 1) c 105 (by unfold maxLen; omega)
    rw [← hG] at this
    unfold maxLen at this
    omega
  have hdl : (cs.drop (i * 2)).length = (n - i) * 2 := by rw [List.length_drop, hcl]; omega
  have hbN : b ≠ N := by omega
  rw [← hN] at hrz ⊢
  rw [← hW0] at hrz ⊢
  have hcpA : ∀ (W : World), W.heap = W0.heap → ∀ ty dc, (Builtin.copy_ #[98, 98] ty #[.slice (some ⟨N, i * 2, none⟩) (n + 1 - i) dc, .slice (some ⟨vb, 0, none⟩) 1 1]).run Try.prog W = .ok (goInt 1) (W.setRow N C1) := fun W hW ty dc => by
    have hm : Nat.min 1 (n + 1 - i) = 1 := by simp only [Nat.min_def]; split <;> omega
    have := run_copyK W ty N (i * 2) (n + 1 - i) dc ⟨vb, 0, none⟩ 1 1 news (by rw [hvl, hm])
      (fun j v hj => by rw [Addr.add_lit, Nat.zero_add]; simp [World.cell?, hW, hgv0, hj]) ROW _ (by rw [hW]; exact hgr) (by rw [hvl]; omega) h1v
    rw [hm, ← hC1] at this
    exact this
  obtain ⟨W1, hW1⟩ : ∃ W1, W1 = W0.setRow N C1 := ⟨_, rfl⟩
  have hgr1 : W1.heap[N]? = some (.cells C1 105 (0, 0)) := by rw [hW1]; exact setRow_at _ _ _ _ _ hgr
  have hob1 : ∀ j v, w.cell? ⟨b, j, none⟩ = some v → W1.cell? ⟨b, j, none⟩ = some v := fun j v h => by
    have := hob j v h
    rw [hW1]
    simpa [World.cell?, setRow_other W0 N b C1 hbN] using this
  have hcpB : ∀ (W : World), W.heap = W1.heap → ∀ ty dc sc, (Builtin.copy_ #[98, 98] ty #[.slice (some ⟨N, (i + 1) * 2, none⟩) (n - i) dc, .slice (some ⟨b, off + i * 2, none⟩) (n - i) sc]).run Try.prog W = .ok (goInt ((n - i : Nat) : Int)) (W.setRow N C2) := fun W hW ty dc sc => by
    have hm : Nat.min (n - i) (n - i) = n - i := by simp only [Nat.min_def]; split <;> omega
    have := run_copyK W ty N ((i + 1) * 2) (n - i) dc ⟨b, off + i * 2, none⟩ (n - i) sc (cs.drop (i * 2)) (by rw [hdl, hm])
      (fun j v hj => by
        rw [Addr.add_lit, Nat.add_assoc]
        rw [List.getElem?_drop] at hj
        have := hob1 _ _ (hcs _ v hj)
        simp only [World.cell?] at this ⊢
        rw [hW]; exact this) C1 _ (by rw [hW]; exact hgr1) (by rw [hdl, hC1s]; omega) (fun v hv => h1c v (List.mem_of_mem_drop hv))
    rw [hm, ← hC2] at this
    exact this
  rw [← hW1]
  have hGi : ¬ (G = i) := by omega
  have hGim : ¬ (G = i + 1) := by omega
  have hci : ¬ (c = i) := by omega
  have hw1 : IntKind.i64.wrap ((i : Int) + 1) = (i : Int) + 1 := by rw [IntKind.wrap_i64]; omega
  have hb1 : (0 : Int) ≤ (i : Int) + 1 := by omega
  have hin : i ≤ n := by omega
  have htn : ((i : Int) + 1).toNat = i + 1 := by omega
  have hb3 : (i : Int) ≤ (n : Int) := by omega
  have hcpA0 := hcpA W0 rfl
  rw [← hW1] at hcpA0
  clear hkk hik hold hROW hG hRl hC1 hC2 hW0 hN hgr hgv0 hob hC1s hgr1 hob1 hcpA hW1
  go_enter Try.func83, Try.ntmps83
  go_wp2_with (first
    | (at_builtin; refine Lib.wpList_append_run _ rfl _ _ _ _ rfl _ _ rfl rfl _ _ (hrz _) ?_)
    | (at_builtin; refine wpList_copy_runI _ rfl _ _ 98 98 rfl _ _ rfl rfl (hcpA0 _ _) ?_))
  go_region_law (refine step_copy_runI rfl _ _ 98 98 rfl (.slice (some ⟨N, (i + 1) * 2, none⟩) (n - i) (G - (i + 1))) (.slice (some ⟨b, off + i * 2, none⟩) (n - i) (c - i)) (by simp [Act.eval, Act.put]) (by simp [Act.eval, Act.put]) (hcpB W1.drew rfl 3 (G - (i + 1)) (c - i)) ?_)
  go_wp2
  go_ret
  exact ⟨rfl, W1, rfl, rfl⟩

theorem zc (m : Nat) : (Builtin.zeroCells (.agg #[.int .i64 0, .int .u64 0] : Value).cells m).size = m * 2 := by simp [Builtin.zeroCells, Value.cells]
theorem row_new (w : World) (xs news : List Value) (n G : Nat) (hcl : xs.length = n * 2) (hvl : news.length = 2) (hG : n + 1 ≤ G) (hG63 : G ≤ maxLen) :
    Row 105 2 (w.drew.alloc (.cells ((xs ++ news).toArray ++ Builtin.zeroCells (.agg #[.int .i64 0, .int .u64 0] : Value).cells (G - (n + 1))) 105)) (.slice (some ⟨w.heap.size, 0, none⟩) (n + 1) G) (n + 1) (xs ++ news) [w.heap.size] := by
  refine ⟨by simp [hcl, hvl]; omega, .inr ⟨w.heap.size, 0, G, _, rfl, rfl, heap_alloc_new w.drew _, hG, hG63, ?_, ?_⟩⟩
  · simp only [Array.size_append, zc, List.size_toArray, List.length_append, hcl, hvl]; omega
  · simp only [List.drop_zero, Array.toList_append]
    rw [take_len_append _ _ _ (by simp [hcl, hvl]; omega)]
/-- slices.Insert of one element into a row. -/
theorem any (w : World) (v : Value) (n : Nat) (xs : List Value) (G : List Nat) (i vb : Nat) (news : List Value) (hr : Row 105 2 w v n xs G) (hi : i ≤ n) (hbig : (n + 1) * 16 ≤ 140737488355328)
    (hgv : w.heap[vb]? = some (.cells news.toArray 105 (0, 0))) (hvl : news.length = 2) (hne : vb ∉ G) (h1c : ∀ v ∈ xs, v.oneCell' = true) (h1v : ∀ v ∈ news, v.oneCell' = true) :
    Calls Try.prog 83 #[v, .int .i64 i, .slice (some ⟨vb, 0, none⟩) 1 1] w fun e w' => ∃ v', e = .returned v' ∧ ∃ G', Row 105 2 w' v' (n + 1) (xs.take (i * 2) ++ (news ++ xs.drop (i * 2))) G' ∧ Turn G G' w w' := by
  have hm : ∀ c, grownCap w (n + 1) c 105 ≤ maxLen := fun c => grownCap_le_maxLen w (n + 1) c 105 (by unfold maxLen; omega)
  have hx : i = n → xs.take (i * 2) ++ (news ++ xs.drop (i * 2)) = xs ++ news := fun e => by
    rw [List.take_of_length_le (by rw [hr.1, e]; exact Nat.le_refl _), List.drop_eq_nil_of_le (by rw [hr.1, e]; exact Nat.le_refl _)]; simp
  rcases hr.2 with ⟨rfl, rfl, rfl⟩ | ⟨g, off, cap, cur, rfl, rfl, hg, hnc, hcm, hfit, htake⟩
  · obtain rfl : i = 0 := by omega
    obtain rfl : xs = [] := List.length_eq_zero_iff.1 (by simpa using hr.1)
    refine (endGrow none 0 0 vb [] news w (Nat.le_refl _) (by omega) hbig rfl hvl (fun _ => rfl) (fun _ h => by cases h) hgv h1v).mono fun e w' ⟨he, hw⟩ => ⟨_, he, [w.heap.size], ?_, ?_⟩
    · rw [hw, hx rfl]
      exact row_new w [] news 0 _ rfl hvl (grownCap_ge w _ _ _) (hm 0)
    · rw [hw]
      exact Turn.fresh ((Below.refl _ _).drew.alloc (Nat.le_refl _) _) (by simp)
  · have hcap : cap ≤ 9223372036854775807 := by unfold maxLen at hcm; omega
    have hcell : ∀ j v, xs[j]? = some v → cur[off + j]? = some v := fun j v h => by
      rw [← htake, List.getElem?_take] at h
      split at h
      · rw [List.getElem?_drop] at h; simpa using h
      · cases h
    have hwc : ∀ j v, xs[j]? = some v → w.cell? ⟨g, off + j, none⟩ = some v := fun j v h => by simp [World.cell?, hg, hcell j v h]
    have hgw := heap_lt hg
    by_cases hroom : n + 1 ≤ cap
    · by_cases e : i = n
      · subst e
        refine (endRoom g off i cap vb cur news w hroom hcap hvl hg hfit hgv h1v).mono fun e w' ⟨he, hw⟩ => ⟨_, he, [g], ?_, ?_⟩
        · rw [hw, hx rfl, setCells_setRow w g _ news cur _ hg (by rw [hvl]; omega) h1v]
          refine ⟨by simp [hr.1, hvl]; omega, .inr ⟨g, off, cap, _, rfl, rfl, setRow_at w g _ cur _ hg, hroom, hcm, ?_, ?_⟩⟩
          · simp [hvl]; omega
          · simp only [List.append_assoc]
            rw [List.drop_append_of_le_length (by simp; omega), ← List.append_assoc]
            have e3 : (cur.toList.take (off + i * 2)).drop off = xs := by rw [List.drop_take, show off + i * 2 - off = i * 2 by omega]; exact htake
            rw [e3, take_len_append _ _ _ (by simp [hr.1, hvl]; omega)]
        · rw [hw, setCells_setRow w g _ news cur _ hg (by rw [hvl]; omega) h1v]
          exact Turn.wr ((Chg.setRow w g _).mono fun k _ h => by simp [h])
      · obtain ⟨C1, hC1⟩ : ∃ C1 : Array Value, C1 = (cur.toList.take (off + (i + 1) * 2) ++ xs.drop (i * 2) ++ cur.toList.drop (off + (i + 1) * 2 + (xs.drop (i * 2)).length)).toArray := ⟨_, rfl⟩
        obtain ⟨C2, hC2⟩ : ∃ C2 : Array Value, C2 = (C1.toList.take (off + i * 2) ++ news ++ C1.toList.drop (off + i * 2 + news.length)).toArray := ⟨_, rfl⟩
        have e1 : C1.toList = cur.toList.take (off + i * 2 + 2) ++ xs.drop (i * 2) ++ cur.toList.drop (off + i * 2 + 2 + (xs.drop (i * 2)).length) := by rw [hC1, show off + (i + 1) * 2 = off + i * 2 + 2 by omega]
        obtain ⟨l1, l2⟩ := ins_shift cur.toList xs news C1.toList C2.toList off (i * 2) (n * 2) 2 htake (by omega) hvl (by simp; omega) e1 (by rw [hC2])
        refine (shift g off n cap i vb cur xs news w (by omega) hroom hcap (fun e => hne (by simp [e])) hr.1 hvl hg hfit hcell hgv h1c h1v C1 C2 hC1 hC2).mono fun e w' ⟨he, hw⟩ => ⟨_, he, [g], ?_, ?_⟩
        · rw [hw]
          refine ⟨by simp [hr.1, hvl]; omega, .inr ⟨g, off, cap, C2, rfl, rfl, setRow_at _ g _ C1 _ (setRow_at _ g _ cur _ (by exact hg)), hroom, hcm, ?_, ?_⟩⟩
          · simp at l1; omega
          · rw [show (n + 1) * 2 = n * 2 + 2 by omega]; exact l2
        · rw [hw]
          exact Turn.wr (((Chg.refl _ w).drew.trans ((Chg.setRow w.drew g C1).trans (Chg.setRow _ g C2))).mono fun k _ h => by simp [h])
    · by_cases e : i = n
      · subst e
        refine (endGrow (some ⟨g, off, none⟩) i cap vb xs news w hnc (by omega) hbig hr.1 hvl (fun h => by cases h) (fun a h => by cases h; exact ⟨rfl, fun j v hj => by rw [Addr.add_lit]; exact hwc j v hj⟩) hgv h1v).mono fun e w' ⟨he, hw⟩ => ⟨_, he, [w.heap.size], ?_, ?_⟩
        · rw [hw, hx rfl]
          exact row_new w xs news i _ hr.1 hvl (grownCap_ge w _ _ _) (hm cap)
        · rw [hw]
          exact Turn.fresh ((Below.refl _ _).drew.alloc (Nat.le_refl _) _) (by simp)
      · have hGn : n + 1 ≤ grownCap w (n + 1) cap 105 := grownCap_ge w _ _ _
        obtain ⟨GC, hGC⟩ : ∃ GC, GC = grownCap w (n + 1) cap 105 := ⟨_, rfl⟩
        obtain ⟨ROW, hROW⟩ : ∃ ROW : Array Value, ROW = (xs.take (i * 2)).toArray ++ Builtin.zeroCells (.agg #[.int .i64 0, .int .u64 0] : Value).cells (n + 1 - i) ++ Builtin.zeroCells (.agg #[.int .i64 0, .int .u64 0] : Value).cells (GC - (n + 1)) := ⟨_, rfl⟩
        obtain ⟨C1, hC1⟩ : ∃ C1 : Array Value, C1 = (ROW.toList.take (i * 2) ++ news ++ ROW.toList.drop (i * 2 + news.length)).toArray := ⟨_, rfl⟩
        obtain ⟨C2, hC2⟩ : ∃ C2 : Array Value, C2 = (C1.toList.take ((i + 1) * 2) ++ xs.drop (i * 2) ++ C1.toList.drop ((i + 1) * 2 + (xs.drop (i * 2)).length)).toArray := ⟨_, rfl⟩
        rw [← hGC] at hGn
        have hRs : ROW.size = GC * 2 := by
          rw [hROW]
          simp only [Array.size_append, zc, List.size_toArray, List.length_take, hr.1]
          omega
        have hxd : (xs.drop (i * 2)).length = (n - i) * 2 := by rw [List.length_drop, hr.1]; omega
        have hC1s : C1.size = GC * 2 := by rw [hC1]; simp [hvl, hRs]; omega
        have e0 : ROW.toList.take (i * 2) = xs.take (i * 2) := by
          rw [hROW]
          simp only [Array.toList_append, List.append_assoc]
          rw [take_len_append _ _ _ (by simp [hr.1]; omega)]
        have e1 : C1.toList.take ((i + 1) * 2) = xs.take (i * 2) ++ news := by
          rw [hC1]
          simp only []
          rw [take_len_append _ _ _ (by simp [hvl, hRs]; omega), e0]
        refine (grow g off n cap i vb xs news w (by omega) hnc (by omega) hbig hr.1 hvl hwc hgw hgv h1c h1v GC ROW C1 C2 hGC hROW hC1 hC2 (by rw [hRs]; omega)).mono fun e w' ⟨he, W1, hW1, hw⟩ => ⟨_, he, [w.heap.size], ?_, ?_⟩
        · have hr0 : (w.drew.alloc (.cells ROW 105)).heap[w.heap.size]? = some (.cells ROW 105 (0, 0)) := heap_alloc_new w.drew _
          have hr1 : W1.heap[w.heap.size]? = some (.cells C1 105 (0, 0)) := by rw [hW1]; exact setRow_at _ _ _ _ _ hr0
          rw [hw]
          refine ⟨by simp [hr.1, hvl]; omega, .inr ⟨w.heap.size, 0, GC, C2, rfl, rfl, setRow_at W1.drew _ _ C1 _ (by exact hr1), hGn, by rw [hGC]; exact hm cap, ?_, ?_⟩⟩
          · rw [hC2]; simp [hC1s, hr.1]; omega
          · rw [hC2]
            simp only [List.drop_zero]
            rw [e1, take_len_append _ _ _ (by simp [hr.1, hvl]; omega), List.append_assoc]
        · rw [hw, hW1]
          exact Turn.fresh (bel_setRow (bel_setRow ((Below.refl _ _).drew.alloc (Nat.le_refl _) _) (Nat.le_refl _) _).drew (Nat.le_refl _) _) (by simp)

end Go.Proofs.Ytgafnilcmhjpcaa.HItmIns
