/- A strings.Builder of one's own, by its blocks: WriteByte, WriteString, Len, String. Conditions: sizes. -/
import Derived.Test.YtlmnniajindlgaaMem
import Derived.Test.YtlmnniajindlgaaShelf
import Derived.Lib.Builder
import Derived.Lib.UnsafeStr
import Derived.Lib.AppendStr
import Derived.WalkKit
import Derived.Laws.Externs
import Derived.Maps.AppendAt
namespace Go.Proofs.Ytlmnniajindlgaa.HBld
set_option linter.unusedVariables false
open Go.RowKit Go.Proofs.Ytlmnniajindlgaa.HMem

theorem sizeB : (Try.prog.info? 63).map (·.size) = some 2 := by kernel_rfl
theorem liesB : liesAt Try.prog Try.prog.depth 63 (2 / Try.prog.cellsOf 63) 0 63 1 = true := by kernel_rfl
theorem infoB : (Try.prog.info? 5).map (fun i => (i.zero, i.size, i.bytes)) = some (some (.int .u8 0), 1, 1) := by kernel_rfl
/-- What is used of b's first cell. -/
def Adr (b : Nat) (p : Value) : Prop := p = .pointer none ∨ p = .pointer (some ⟨b, 0, none⟩)
/-- The builder in block b that holds the bytes l; its blocks G. -/
structure BldAt (w : World) (b : Nat) (G : List Nat) (l : List UInt8) : Prop where
  ex : ∃ p v, Adr b p ∧ w.heap[b]? = some (.cells #[p, v] 63 (0, 0)) ∧ w.ownsRow b 5 1 v l.length (Lib.byteCells l) ∧ v.ownBlock ≠ some b ∧ G = b :: ob v
section
variable {w w' : World} {b : Nat} {G : List Nat} {l : List UInt8}
theorem BldAt.is (h : BldAt w b G l) : Lib.IsBuilder 63 5 b b (Lib.byteCells l) w := by
  obtain ⟨p, v, hp, hb, ho, hn, _⟩ := h.ex
  have e : (Lib.byteCells l).length = l.length := Lib.byteCells_length l
  rcases hp with rfl | rfl
  · exact .inl ⟨Nat.le_refl _, v, hb, by rw [e]; exact ho, hn⟩
  · exact .inr ⟨Nat.le_refl _, v, hb, by rw [e]; exact ho, hn⟩
theorem BldAt.own (h : BldAt w b G l) : Own b w G := by
  obtain ⟨p, v, hp, hb, ho, hn, rfl⟩ := h.ex
  refine ⟨List.nodup_cons.2 ⟨fun hm => hn (mem_ob.1 hm), ?_⟩, fun g hg => ?_⟩
  · unfold ob; split <;> simp
  · rcases List.mem_cons.1 hg with rfl | hg
    · exact ⟨Nat.le_refl _, heap_lt hb⟩
    · exact ho.lt g (mem_ob.1 hg)
theorem BldAt.same (h : BldAt w b G l) (s : Same G w w') : BldAt w' b G l := by
  obtain ⟨p, v, hp, hb, ho, hn, rfl⟩ := h.ex
  refine ⟨p, v, hp, by rw [s b (by simp)]; exact hb, ⟨ho.1, ?_⟩, hn, rfl⟩
  rcases ho.2 with h | ⟨g, cap, cur, h1, h2, h3, h4⟩
  · exact .inl h
  · exact .inr ⟨g, cap, cur, h1, h2, by rw [s g (List.mem_cons_of_mem _ (mem_ob.2 (by rw [h1]; rfl)))]; exact h3, h4⟩
theorem BldAt.mono (h : BldAt w b G l) (k : Below w.heap.size w w') : BldAt w' b G l := h.same (Same.own k h.own)
theorem BldAt.new (w : World) : BldAt (w.alloc (.cells #[.pointer none, .slice none 0 0] 63)) w.heap.size [w.heap.size] [] :=
  ⟨_, _, .inl rfl, heap_alloc_new w _, ⟨rfl, .inl ⟨rfl, rfl⟩⟩, (by simp [Value.ownBlock]), rfl⟩
end
set_option maxHeartbeats 1000000 in
set_option maxRecDepth 100000 in
theorem check_any {w : World} {b : Nat} {G : List Nat} {l : List UInt8} (h : BldAt w b G l) :
    Calls Try.prog 48 #[.pointer (some ⟨b, 0, none⟩)] w fun e w' => e = .returned (.tuple #[]) ∧ ∃ v, w'.heap[b]? = some (.cells #[.pointer (some ⟨b, 0, none⟩), v] 63 (0, 0)) ∧ w'.ownsRow b 5 1 v l.length (Lib.byteCells l) ∧ v.ownBlock ≠ some b ∧ G = b :: ob v ∧ Turn G G w w' := by
  obtain ⟨p, v, hp, hb, ho, hn, rfl⟩ := h.ex
  obtain ⟨j, hj, hjs⟩ := Option.map_eq_some_iff.1 sizeB
  rcases hp with rfl | rfl
  · have c0 : w.cell? ⟨b, 0, none⟩ = some (.pointer none) := by simp [World.cell?, hb]
    have hsh : w.shape? b = some (63, 2) := by simp [World.shape?, hb]
    have hfz : w.frozen? ⟨b, 0, none⟩ = false := by simp [World.frozen?, hb]
    have HB := Lib.hid hb
    have HO := Lib.hid ho
    have HN := Lib.hid hn
    clear hb ho hn h
    go_enter Try.func48, Try.ntmps48
    go_wp2
    rw [Lib.run_to_unsafe w ⟨b, 0, none⟩ Try.underlying61 Try.underlying82 hj (by rw [hjs]; decide) hsh (Nat.zero_lt_succ 1)]
    simp only [Result.andThen]
    rw [Oper.upon_value]
    go_wp2
    rw [run_callFunc_extern Try.func55 (by kernel_rfl) (by kernel_rfl) (by kernel_rfl) (e := Extern.AbiNoEscape.same) (by kernel_rfl)]
    rw [Lib.run_noEscape]
    simp only [Result.andThen]
    rw [Oper.upon_value]
    go_wp2
    rw [Lib.run_from_unsafe w ⟨b, 0, none⟩ Try.underlying82 Try.underlying61 hj hsh liesB]
    simp only [Result.andThen]
    rw [Oper.upon_value]
    go_wp2
    go_end0
    refine ⟨rfl, v, set_at HB.out 0 _, ⟨HO.out.1, ?_⟩, HN.out, rfl, Turn.set (b := b) (G := b :: ob v) (by simp) _ _⟩
    rcases HO.out.2 with h | ⟨g, cap, cur, h1, h2, h3, h4⟩
    · exact .inl h
    · refine .inr ⟨g, cap, cur, h1, h2, ?_, h4⟩
      rw [Below.heap_setCell w ⟨b, 0, none⟩ _ g (fun e => HN.out (by rw [h1, ← show g = b from e]; rfl))]
      exact h3
  · have c0 : w.cell? ⟨b, 0, none⟩ = some (.pointer (some ⟨b, 0, none⟩)) := by simp [World.cell?, hb]
    have HB := Lib.hid hb
    have HO := Lib.hid ho
    have HN := Lib.hid hn
    clear hb ho hn h
    go_enter Try.func48, Try.ntmps48
    go_wp2
    rw [Lib.run_neq_ptr_same w _ Try.underlying61 hj]
    go_wp2
    go_end0
    exact ⟨rfl, v, HB.out, HO.out, HN.out, rfl, Turn.refl _ _⟩
theorem byteCells_app (l m : List UInt8) : Lib.byteCells (l ++ m) = Lib.byteCells l ++ Lib.byteCells m := by simp [Lib.byteCells]
/-- Behind an append: the builder that its cell is stored into. -/
theorem put_at {w w1 w2 : World} {b : Nat} {v v' : Value} {l m : List UInt8} (hb : w1.heap[b]? = some (.cells #[.pointer (some ⟨b, 0, none⟩), v] 63 (0, 0))) (hn : v.ownBlock ≠ some b) (hl : b < w1.heap.size) (hg : w1.grownBy w2 v.ownBlock) (k : v'.ownBlock = v.ownBlock ∨ v'.ownBlock = some w1.heap.size)
    (ho : w2.ownsRow b 5 1 v' (l ++ m).length (Lib.byteCells (l ++ m))) (t : Turn (b :: ob v) (b :: ob v) w w1) :
    BldAt (w2.setCell ⟨b, 1, none⟩ v') b (b :: ob v') (l ++ m) ∧ Turn (b :: ob v) (b :: ob v') w (w2.setCell ⟨b, 1, none⟩ v') := by
  have hb2 : w2.heap[b]? = some (.cells #[.pointer (some ⟨b, 0, none⟩), v] 63 (0, 0)) := by rw [hg.block b hl (fun e => hn e.symm)]; exact hb
  have hn' : v'.ownBlock ≠ some b := by
    rcases k with k | k
    · rw [k]; exact hn
    · rw [k]; intro e; injection e with e; omega
  refine ⟨⟨_, v', .inr rfl, set_at hb2 1 v', ⟨ho.1, ?_⟩, hn', rfl⟩, (t.trans ?_).trans (Turn.set (b := b) (G := b :: ob v') (by simp) _ _)⟩
  · rcases ho.2 with h | ⟨g, cap, cur, h1, h2, h3, h4⟩
    · exact .inl h
    · refine .inr ⟨g, cap, cur, h1, h2, ?_, h4⟩
      rw [Below.heap_setCell w2 ⟨b, 1, none⟩ _ g (fun e => hn' (by rw [h1, ← show g = b from e]; rfl))]
      exact h3
  · exact (Turn.grown (v := v) (v' := v') hg k).part' (L := [b])
set_option maxHeartbeats 2000000 in
set_option maxRecDepth 100000 in
theorem byte_any {w : World} {b : Nat} {G : List Nat} {l : List UInt8} (h : BldAt w b G l) (c : UInt8) (hl : l.length + 1 ≤ 140737488355328) :
    Calls Try.prog 43 #[.pointer (some ⟨b, 0, none⟩), .int .u8 c.toNat] w fun e w' => e = .returned .nilIface ∧ ∃ G', BldAt w' b G' (l ++ [c]) ∧ Turn G G' w w' := by
  obtain ⟨i0, hi, hz0, hz1, hz2⟩ := info_parts infoB
  have KC := Lib.hid (check_any h)
  clear h
  go_enter Try.func43, Try.ntmps43
  go_wp2_with fail
  refine KC.out.mono ?_
  rintro e w1 ⟨rfl, v, hb, ho, hn, rfl, ht⟩
  have c0 : w1.cell? ⟨b, 0, none⟩ = some (.pointer (some ⟨b, 0, none⟩)) := by simp [World.cell?, hb]
  have c1 : w1.cell? ⟨b, 1, none⟩ = some v := by simp [World.cell?, hb]
  have HB := Lib.hid hb
  have HO := Lib.hid ho
  have HN := Lib.hid hn
  have HT := Lib.hid ht
  have hlt := heap_lt hb
  have hB1 : b ≤ w1.heap.size := by omega
  clear KC hb ho hn ht
  have H1 : ∀ ad : Addr, ad = ⟨w1.heap.size, 0, none⟩ → ∀ j u, [Value.int .u8 (c.toNat : Int)][j]? = some u → (w1.alloc (.cells #[.int .u8 (c.toNat : Int)] 5)).cell? (ad.add j) = some u := by
    rintro ad rfl j u hj
    match j, hj with
    | 0, hj => simp at hj; subst hj; rw [Addr.add_zero', new_cell]; rfl
  have H2 : ∀ u ∈ [Value.int .u8 (c.toNat : Int)], u.oneCell' = true := fun u hu => by simp at hu; subst hu; rfl
  have H3 : l.length + 1 ≤ maxLen := by unfold maxLen; omega
  have H4 : (l.length + 1) * 1 ≤ 140737488355328 := by omega
  have H5 : b ≤ (w1.alloc (.cells #[.int .u8 (c.toNat : Int)] 5)).heap.size := by simp; omega
  go_wp2_with (at_builtin; refine wpList_append_own_at _ rfl _ _ 23 rfl b 5 i0 (.int .u8 0) 1 1 Try.underlying23 hi hz0 hz1 hz2 rfl (by decide) _ _ _ rfl (HO.out.alloc _) ⟨w1.heap.size, 0, none⟩ 1 1 [.int .u8 (c.toNat : Int)] rfl rfl (H1 _ rfl) H2 H3 H4 H5 ?_)
  intro v' w2 hown' hgrow _ hat
  clear H1 H2 H3 H4 H5
  have hb2 : w2.heap[b]? = some (.cells #[.pointer (some ⟨b, 0, none⟩), v] 63 (0, 0)) := by
    rw [hgrow.block b (by simp; omega) (fun e => HN.out e.symm), Lib.alloc_old w1 _ b hlt]
    exact HB.out
  have f1 : w2.frozen? ⟨b, 1, none⟩ = false := by simp [World.frozen?, hb2]
  have d1 : w2.cell? ⟨b, 1, none⟩ = some v := by simp [World.cell?, hb2]
  obtain ⟨ao, n', cap, rfl⟩ : ∃ ao n' cap, v' = .slice ao n' cap := by
    rcases hown'.2 with ⟨hv, _⟩ | ⟨g, cap, cur, hv, _⟩
    · exact ⟨_, _, _, hv⟩
    · exact ⟨_, _, _, hv⟩
  have ha := Lib.alloc_old w1 (.cells #[.int .u8 (c.toNat : Int)] 5) b hlt
  have RES := Lib.hid (put_at (w := w) (l := l) (m := [c]) (ha.trans HB.out) HN.out (by simp; omega) hgrow (by simpa using hat) (by rw [List.length_append, byteCells_app]; exact hown') (HT.out.trans (Turn.of ((Below.refl _ _).alloc (Nat.le_refl _) _))))
  clear hb2 hown' hgrow hat ha c0 c1
  go_wp2
  go_ret
  exact ⟨rfl, _, RES.out.1, RES.out.2⟩
/-- append of a text onto a row of one's own: it also tells whose block the row has then. -/
theorem run_str {P : Program} {w : World} (base : Nat) (t u ty e : TypeId) (i : TypeInfo) (ht : P.underlying t = some (.slice e)) (hu : P.underlying u = some .string) (hi : P.info? e = some i) (hz : i.zero = some (.int .u8 0))
    (hsize : i.size = 1) (hby : i.bytes = 1) (v : Value) (n : Nat) (xs : List Value) (hown : w.ownsRow base e 1 v n xs) (s : ByteArray) (h63 : n + s.size ≤ maxLen) (hbytes : n + s.size ≤ 140737488355328) (hbase : base ≤ w.heap.size) :
    ∃ v' w', (Builtin.append_ #[t, u] ty #[v, .string s]).run P w = .ok v' w' ∧ w'.ownsRow base e 1 v' (n + s.size) (xs ++ Lib.strCells s) ∧ w.grownBy w' v.ownBlock ∧ (v'.ownBlock = v.ownBlock ∨ v'.ownBlock = some w.heap.size) := by
  obtain ⟨v', w', hr, h2, h3, h4⟩ := Lib.run_append_own_string (P := P) (w := w) base t u ty e i ht hu hi hz hsize hby v n xs hown s h63 hbytes hbase
  refine ⟨v', w', hr, h2, h3, ?_⟩
  have hsmall : n + s.size ≤ 9223372036854775807 := by simp only [maxLen] at h63; omega
  have hxl : xs.length = n := by simpa using hown.1
  rcases hown.2 with ⟨rfl, rfl⟩ | ⟨g, cap, cur, rfl, hbg, hg, hnc, hcm, hcs, htake⟩
  · by_cases hm : s.size = 0
    · exact .inl (by rw [h4.2 ⟨rfl, hm⟩])
    · have hr' := run_append_nil_string (P := P) w t u ty e i (.int .u8 0) ht hu hi hz s (by omega) (by omega) (by rw [hby]; omega)
      rw [hr] at hr'
      injection hr' with e1 e2
      exact .inr (by rw [e1]; rfl)
  · by_cases hroom : n + s.size ≤ cap
    · have hr' := Lib.run_append_room_string (P := P) (w := w) t u ty e i ht hu hi hsize g n cap cur hg s hroom (by have : cur.size = cap := (by simpa using hcs); omega)
      rw [hr] at hr'
      injection hr' with e1 e2
      exact .inl (by rw [e1]; rfl)
    · have hr' := Lib.run_append_grow_string (P := P) (w := w) t u ty e i (.int .u8 0) ht hu hi hz ⟨g, 0, none⟩ n cap xs (by rw [hsize]; simpa using hxl) (hown.cells (g := g) rfl) s (by omega) (by omega) (by rw [hby]; exact growslice_fits (by omega) (by omega))
      rw [hr] at hr'
      injection hr' with e1 e2
      exact .inr (by rw [e1]; rfl)
theorem op_str {P : Program} (w : World) {ops : Array Oper} {rest : List Oper} {o : Oper} {a : Act} {Q : Exit → Act → World → Prop} (hgd : o.guard = none) (sl x : Operand) (t u : TypeId)
    (ho : o.op = .call { callee := .builtin .append, args := #[sl, x], argTypes := #[t, u] })
    (base : Nat) (e : TypeId) (i : TypeInfo) (ht : P.underlying t = some (.slice e)) (hu : P.underlying u = some .string) (hi : P.info? e = some i) (hz : i.zero = some (.int .u8 0))
    (hsize : i.size = 1) (hby : i.bytes = 1)
    (v : Value) (n : Nat) (xs : List Value) (hs : a.eval sl = v) (hown : w.ownsRow base e 1 v n xs) (s : ByteArray) (hx : a.eval x = .string s)
    (h63 : n + s.size ≤ maxLen) (hbytes : n + s.size ≤ 140737488355328) (hbase : base ≤ w.heap.size)
    (h : ∀ v' w', w'.ownsRow base e 1 v' (n + s.size) (xs ++ Lib.strCells s) → w.grownBy w' v.ownBlock → (v'.ownBlock = v.ownBlock ∨ v'.ownBlock = some w.heap.size) → wpList P ops Q rest (a.put o.dst v') w') : wpList P ops Q (o :: rest) a w := by
  refine wpList_plain hgd fun K hK => ?_
  obtain ⟨v', w', hr, h2, h3, h4⟩ := run_str (P := P) (w := w) base t u o.type e i ht hu hi hz hsize hby v n xs hown s h63 hbytes hbase
  unfold Oper.wp execOp
  simp only [ho, resolve, invoke, builtin, Sem.run_bind, Sem.run_pure, Result.andThen_ok, List.map_toArray, List.map_cons, List.map_nil, hs, hx, hr]
  exact hK _ _ (h v' w' h2 h3 h4)
set_option maxHeartbeats 2000000 in
set_option maxRecDepth 100000 in
theorem str_any {w : World} {b : Nat} {G : List Nat} {l : List UInt8} (h : BldAt w b G l) (s : ByteArray) (hl : l.length + s.size ≤ 140737488355328) :
    Calls Try.prog 32 #[.pointer (some ⟨b, 0, none⟩), .string s] w fun e w' => e = .returned (.tuple #[.int .i64 s.size, .nilIface]) ∧ ∃ G', BldAt w' b G' (l ++ s.data.toList) ∧ Turn G G' w w' := by
  obtain ⟨i0, hi, hz0, hz1, hz2⟩ := info_parts infoB
  have KC := Lib.hid (check_any h)
  clear h
  go_enter Try.func32, Try.ntmps32
  go_wp2_with fail
  refine KC.out.mono ?_
  rintro e w1 ⟨rfl, v, hb, ho, hn, rfl, ht⟩
  have c0 : w1.cell? ⟨b, 0, none⟩ = some (.pointer (some ⟨b, 0, none⟩)) := by simp [World.cell?, hb]
  have c1 : w1.cell? ⟨b, 1, none⟩ = some v := by simp [World.cell?, hb]
  have HB := Lib.hid hb
  have HO := Lib.hid ho
  have HN := Lib.hid hn
  have HT := Lib.hid ht
  have hlt := heap_lt hb
  have hB1 : b ≤ w1.heap.size := by omega
  have hsl : s.data.toList.length = s.size := by rw [Array.length_toList]; rfl
  clear KC hb ho hn ht
  have H3 : l.length + s.size ≤ maxLen := by unfold maxLen; omega
  have H4 : l.length + s.size ≤ 140737488355328 := by omega
  go_wp2_with (at_builtin; refine op_str _ rfl _ _ 23 9 rfl b 5 i0 Try.underlying23 Try.underlying9 hi hz0 hz1 hz2 _ _ _ rfl HO.out s rfl H3 H4 hB1 ?_)
  intro v' w2 hown' hgrow hat
  have hb2 : w2.heap[b]? = some (.cells #[.pointer (some ⟨b, 0, none⟩), v] 63 (0, 0)) := by
    rw [hgrow.block b hlt (fun e => HN.out e.symm)]
    exact HB.out
  have f1 : w2.frozen? ⟨b, 1, none⟩ = false := by simp [World.frozen?, hb2]
  have d1 : w2.cell? ⟨b, 1, none⟩ = some v := by simp [World.cell?, hb2]
  obtain ⟨ao, n', cap, rfl⟩ : ∃ ao n' cap, v' = .slice ao n' cap := by
    rcases hown'.2 with ⟨hv, _⟩ | ⟨g, cap, cur, hv, _⟩
    · exact ⟨_, _, _, hv⟩
    · exact ⟨_, _, _, hv⟩
  have RES := Lib.hid (put_at (w := w) (l := l) (m := s.data.toList) HB.out HN.out hlt hgrow hat (by rw [List.length_append, byteCells_app, hsl]; exact hown') HT.out)
  clear hb2 hown' hgrow hat c0 c1 H3 H4 hsl
  go_wp2
  go_ret2
  exact ⟨rfl, _, RES.out.1, RES.out.2⟩
theorem len_any {w : World} {b : Nat} {G : List Nat} {l : List UInt8} (h : BldAt w b G l) :
    Calls Try.prog 44 #[.pointer (some ⟨b, 0, none⟩)] w fun e w' => e = .returned (.int .i64 l.length) ∧ w = w' :=
  (Try.Builder_Len b b _ w h.is).mono fun e w' ⟨h1, h2⟩ => ⟨by rw [h1, Lib.byteCells_length], h2.symm⟩
theorem string_any {w : World} {b : Nat} {G : List Nat} {l : List UInt8} (h : BldAt w b G l) :
    Calls Try.prog 34 #[.pointer (some ⟨b, 0, none⟩)] w fun e w' => e = .returned (.string ⟨⟨l⟩⟩) ∧ Below b w w' :=
  Try.Builder_String_any b b l w h.is (by have := h.own.mem b (by obtain ⟨_, _, _, _, _, _, rfl⟩ := h.ex; simp); omega)
end Go.Proofs.Ytlmnniajindlgaa.HBld
