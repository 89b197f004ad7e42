/- Memory that changes in known blocks alone: footprints of objects, rows of cells. No conditions. -/
import Derived.Test.YtgafnilcmhjpcaaProg
import Derived.WalkKit
import Derived.Below
import Derived.Lib.Hide
import Derived.Laws.OwnMore
import Derived.Laws.IdiomCopy
import Derived.Laws.CopyRow
import Derived.Deep.QuietTactic
import Derived.BigQuiet
namespace Go.Proofs.Ytgafnilcmhjpcaa.HMem
set_option linter.unusedVariables false
open Go.RowKit

theorem heap_lt {w : World} {g : Nat} {o : Obj} (h : w.heap[g]? = some o) : g < w.heap.size := (Array.getElem?_eq_some_iff.1 h).1

/-- Of what was there only the blocks of F may have turned. -/
structure Chg (F : Nat → Prop) (w w' : World) : Prop where
  os : w'.os = w.os
  tape : w'.tape = w.tape
  output : w'.output = w.output
  size : w.heap.size ≤ w'.heap.size
  block : ∀ k, k < w.heap.size → ¬ F k → w'.heap[k]? = w.heap[k]?
theorem Chg.refl (F : Nat → Prop) (w : World) : Chg F w w := ⟨rfl, rfl, rfl, Nat.le_refl _, fun _ _ _ => rfl⟩
theorem Chg.trans {F : Nat → Prop} {w1 w2 w3 : World} (h : Chg F w1 w2) (k : Chg F w2 w3) : Chg F w1 w3 :=
  ⟨k.os.trans h.os, k.tape.trans h.tape, k.output.trans h.output, Nat.le_trans h.size k.size, fun i hi hf => (k.block i (Nat.lt_of_lt_of_le hi h.size) hf).trans (h.block i hi hf)⟩
theorem Chg.mono {F F' : Nat → Prop} {w w' : World} (h : Chg F w w') (hF : ∀ k, k < w.heap.size → F k → F' k) : Chg F' w w' :=
  ⟨h.os, h.tape, h.output, h.size, fun k hk hf => h.block k hk fun h' => hf (hF k hk h')⟩
theorem Chg.of {F : Nat → Prop} {w w' : World} (h : Below w.heap.size w w') : Chg F w w' := ⟨h.os, h.tape, h.output, h.size, fun k hk _ => h.block k hk⟩
theorem Chg.grown {w w' : World} {row : Option Nat} (h : w.grownBy w' row) : Chg (fun k => row = some k) w w' := ⟨h.os, h.tape, h.output, h.size, fun k hk hf => h.block k hk fun e => hf e.symm⟩
theorem Chg.set (w : World) (b o : Nat) (v : Value) : Chg (· = b) w (w.setCell ⟨b, o, none⟩ v) := ⟨rfl, rfl, rfl, by simp [World.setCell], fun k _ hf => Below.heap_setCell _ _ _ _ hf⟩
theorem Chg.setRow (w : World) (b : Nat) (cs : Array Value) : Chg (· = b) w (w.setRow b cs) := ⟨rfl, rfl, rfl, by simp [World.setRow], fun k _ hf => setRow_other w b k cs hf⟩
theorem Chg.drew {F : Nat → Prop} {w w' : World} (h : Chg F w w') : Chg F w w'.drew := ⟨h.os, h.tape, h.output, h.size, h.block⟩
theorem Chg.drewN {F : Nat → Prop} {w w' : World} (h : Chg F w w') (n : Nat) : Chg F w (w'.drewN n) := ⟨h.os, h.tape, h.output, h.size, h.block⟩
theorem Chg.alloc {F : Nat → Prop} {w w' : World} (h : Chg F w w') (o : Obj) : Chg F w (w'.alloc o) := h.trans (Chg.of ((Below.refl _ _).alloc (Nat.le_refl _) o))
theorem Chg.below {F : Nat → Prop} {B : Nat} {w w' : World} (h : Chg F w w') (hF : ∀ k, F k → B ≤ k) (hB : B ≤ w.heap.size) : Below B w w' :=
  ⟨h.os, h.tape, h.output, h.size, fun k hk => h.block k (by omega) fun hf => by have := hF k hf; omega⟩

/-- The blocks of L are as they were. -/
def Same (L : List Nat) (w w' : World) : Prop := ∀ k ∈ L, w'.heap[k]? = w.heap[k]?
theorem Same.refl (L : List Nat) (w : World) : Same L w w := fun _ _ => rfl
theorem Same.trans {L : List Nat} {w1 w2 w3 : World} (h : Same L w1 w2) (k : Same L w2 w3) : Same L w1 w3 := fun i hi => (k i hi).trans (h i hi)
theorem Same.sub {L L' : List Nat} {w w' : World} (h : Same L w w') (hL : ∀ k ∈ L', k ∈ L) : Same L' w w' := fun k hk => h k (hL k hk)

/-- Blocks that are apart, from B on, and there. -/
structure Own (B : Nat) (w : World) (L : List Nat) : Prop where
  nodup : L.Nodup
  mem : ∀ g ∈ L, B ≤ g ∧ g < w.heap.size
theorem Own.nil (B : Nat) (w : World) : Own B w [] := ⟨List.nodup_nil, fun _ h => by cases h⟩
theorem Own.perm {B : Nat} {w : World} {L L' : List Nat} (h : Own B w L) (p : L.Perm L') : Own B w L' := ⟨p.nodup_iff.1 h.nodup, fun g hg => h.mem g (p.mem_iff.2 hg)⟩
theorem Own.size {B : Nat} {w w' : World} {L : List Nat} (h : Own B w L) (hs : w.heap.size ≤ w'.heap.size) : Own B w' L := ⟨h.nodup, fun g hg => ⟨(h.mem g hg).1, Nat.lt_of_lt_of_le (h.mem g hg).2 hs⟩⟩
theorem Own.base {B B' : Nat} {w : World} {L : List Nat} (h : Own B w L) (hB : B' ≤ B) : Own B' w L := ⟨h.nodup, fun g hg => ⟨Nat.le_trans hB (h.mem g hg).1, (h.mem g hg).2⟩⟩
theorem Own.left {B : Nat} {w : World} {L M : List Nat} (h : Own B w (L ++ M)) : Own B w L := ⟨(List.nodup_append.1 h.nodup).1, fun g hg => h.mem g (List.mem_append_left _ hg)⟩
theorem Own.right {B : Nat} {w : World} {L M : List Nat} (h : Own B w (L ++ M)) : Own B w M := ⟨(List.nodup_append.1 h.nodup).2.1, fun g hg => h.mem g (List.mem_append_right _ hg)⟩
theorem Own.apart {B : Nat} {w : World} {L M : List Nat} (h : Own B w (L ++ M)) {g : Nat} (hl : g ∈ L) (hm : g ∈ M) : False := (List.nodup_append.1 h.nodup).2.2 g hl g hm rfl
theorem Own.join {B : Nat} {w : World} {L M : List Nat} (hl : Own B w L) (hm : Own B w M) (ha : ∀ g ∈ L, g ∉ M) : Own B w (L ++ M) :=
  ⟨List.nodup_append.2 ⟨hl.nodup, hm.nodup, fun a h1 b h2 e => ha a h1 (e ▸ h2)⟩, fun g hg => (List.mem_append.1 hg).elim (hl.mem g) (hm.mem g)⟩
theorem Own.swap {B : Nat} {w : World} {L M : List Nat} (h : Own B w (L ++ M)) : Own B w (M ++ L) := h.perm List.perm_append_comm
/-- What is new lies apart from what was there. -/
theorem Own.new {B : Nat} {w w' : World} {L M : List Nat} (h : Own B w L) (hs : w.heap.size ≤ w'.heap.size) (hm : Own w.heap.size w' M) (hB : B ≤ w.heap.size) : Own B w' (L ++ M) :=
  (h.size hs).join (hm.base hB) fun g h1 h2 => by have := (h.mem g h1).2; have := (hm.mem g h2).1; omega

/-- An object's blocks turn: G to G'. -/
structure Turn (G G' : List Nat) (w w' : World) : Prop where
  chg : Chg (· ∈ G) w w'
  foot : ∀ g ∈ G', g ∈ G ∨ w.heap.size ≤ g
theorem Turn.refl (G : List Nat) (w : World) : Turn G G w w := ⟨Chg.refl _ _, fun _ h => .inl h⟩
theorem Turn.trans {G G' G'' : List Nat} {w1 w2 w3 : World} (h : Turn G G' w1 w2) (k : Turn G' G'' w2 w3) : Turn G G'' w1 w3 := by
  refine ⟨⟨k.chg.os.trans h.chg.os, k.chg.tape.trans h.chg.tape, k.chg.output.trans h.chg.output, Nat.le_trans h.chg.size k.chg.size, fun i hi hf => ?_⟩, fun g hg => ?_⟩
  · rw [k.chg.block i (Nat.lt_of_lt_of_le hi h.chg.size) fun h' => (h.foot i h').elim hf (by omega), h.chg.block i hi hf]
  · rcases k.foot g hg with h' | h'
    · exact h.foot g h'
    · exact .inr (Nat.le_trans h.chg.size h')
theorem Turn.of {G : List Nat} {w w' : World} (h : Below w.heap.size w w') : Turn G G w w' := ⟨Chg.of h, fun _ h => .inl h⟩
theorem Turn.size {G G' : List Nat} {w w' : World} (h : Turn G G' w w') : w.heap.size ≤ w'.heap.size := h.chg.size
theorem Turn.fresh {G G' : List Nat} {w w' : World} (h : Below w.heap.size w w') (hG : ∀ g ∈ G', w.heap.size ≤ g) : Turn G G' w w' := ⟨Chg.of h, fun g hg => .inr (hG g hg)⟩
/-- The same blocks, written. -/
theorem Turn.wr {G : List Nat} {w w' : World} (h : Chg (· ∈ G) w w') : Turn G G w w' := ⟨h, fun _ h => .inl h⟩
theorem Turn.set {G : List Nat} {w : World} {b : Nat} (hb : b ∈ G) (o : Nat) (v : Value) : Turn G G w (w.setCell ⟨b, o, none⟩ v) := Turn.wr ((Chg.set w b o v).mono fun k _ e => by subst e; exact hb)
theorem Turn.drew {G G' : List Nat} {w w' : World} (h : Turn G G' w w') : Turn G G' w w'.drew := ⟨h.chg.drew, h.foot⟩
/-- An object beside it stays. -/
theorem Turn.same {B : Nat} {G G' L : List Nat} {w w' : World} (h : Turn G G' w w') (o : Own B w (G ++ L)) : Same L w w' := fun k hk => h.chg.block k (o.right.mem k hk).2 fun h' => o.apart h' hk
theorem Turn.same' {B : Nat} {G G' L : List Nat} {w w' : World} (h : Turn G G' w w') (o : Own B w (L ++ G)) : Same L w w' := h.same o.swap
theorem Turn.own {B : Nat} {G G' L : List Nat} {w w' : World} (h : Turn G G' w w') (o : Own B w (G ++ L)) (hB : B ≤ w.heap.size) (o' : Own 0 w' G') : Own B w' (G' ++ L) := by
  refine Own.join ⟨o'.nodup, fun g hg => ⟨?_, (o'.mem g hg).2⟩⟩ (o.right.size h.size) fun g h1 h2 => ?_
  · rcases h.foot g hg with h' | h'
    · exact (o.left.mem g h').1
    · omega
  · rcases h.foot g h1 with h' | h'
    · exact o.apart h' h2
    · have := (o.right.mem g h2).2; omega
theorem Turn.own' {B : Nat} {G G' L : List Nat} {w w' : World} (h : Turn G G' w w') (o : Own B w (L ++ G)) (hB : B ≤ w.heap.size) (o' : Own 0 w' G') : Own B w' (L ++ G') := (h.own o.swap hB o').swap
theorem Turn.bel {B : Nat} {G G' : List Nat} {w0 w w' : World} (h : Turn G G' w w') (o : Own B w G) (hb : Below B w0 w) (hB : B ≤ w.heap.size) : Below B w0 w' := hb.trans (h.chg.below (fun k hk => (o.mem k hk).1) hB)
/-- A part of an object turns. -/
theorem Turn.part {G G' L : List Nat} {w w' : World} (h : Turn G G' w w') : Turn (G ++ L) (G' ++ L) w w' :=
  ⟨h.chg.mono fun k _ hk => List.mem_append_left _ hk, fun g hg => (List.mem_append.1 hg).elim (fun h' => (h.foot g h').imp (List.mem_append_left _) id) fun h' => .inl (List.mem_append_right _ h')⟩
theorem Turn.part' {G G' L : List Nat} {w w' : World} (h : Turn G G' w w') : Turn (L ++ G) (L ++ G') w w' :=
  ⟨h.chg.mono fun k _ hk => List.mem_append_right _ hk, fun g hg => (List.mem_append.1 hg).elim (fun h' => .inl (List.mem_append_left _ h')) fun h' => (h.foot g h').imp (List.mem_append_right _) id⟩
theorem Turn.sub {G G' H H' : List Nat} {w w' : World} (h : Turn G G' w w') (hG : ∀ k ∈ G, k ∈ H) (hH : ∀ k ∈ H', k ∈ G' ∨ k ∈ H ∨ w.heap.size ≤ k) : Turn H H' w w' :=
  ⟨h.chg.mono fun k _ hk => hG k hk, fun g hg => (hH g hg).elim (fun h' => (h.foot g h').imp (hG g) id) id⟩
theorem Same.of {L : List Nat} {w w' : World} (h : Below w.heap.size w w') (hL : ∀ g ∈ L, g < w.heap.size) : Same L w w' := fun k hk => h.block k (hL k hk)
theorem Same.own {B : Nat} {L : List Nat} {w w' : World} (h : Below w.heap.size w w') (hL : Own B w L) : Same L w w' := fun k hk => h.block k (hL.mem k hk).2

theorem Same.cell {L : List Nat} {w w' : World} (h : Same L w w') {b : Nat} (hb : b ∈ L) (o : Nat) : w'.cell? ⟨b, o, none⟩ = w.cell? ⟨b, o, none⟩ := World.cell?_of_block (a := ⟨b, o, none⟩) (h b hb)
theorem Same.frozen {L : List Nat} {w w' : World} (h : Same L w w') {b : Nat} (hb : b ∈ L) (o : Nat) : w'.frozen? ⟨b, o, none⟩ = w.frozen? ⟨b, o, none⟩ := World.frozen?_of_block (a := ⟨b, o, none⟩) (h b hb)

theorem bel_setRow {B g : Nat} {w0 w : World} (hb : Below B w0 w) (hBg : B ≤ g) (cs : Array Value) : Below B w0 (w.setRow g cs) :=
  hb.trans ⟨rfl, rfl, rfl, by simp [World.setRow], fun k hk => setRow_other w g k cs (by omega)⟩
theorem new_cell (w : World) (cs : Array Value) (t : TypeId) (i : Nat) : (w.alloc (.cells cs t)).cell? ⟨w.heap.size, i, none⟩ = cs[i]? := by
  have h : (w.alloc (.cells cs t)).heap[w.heap.size]? = some (.cells cs t) := heap_alloc_new w _
  simp only [World.cell?, h]; rfl
theorem u64_in (n : Int) (h0 : 0 ≤ n) (h1 : n < 18446744073709551616) : IntKind.u64.wrap n = n := by
  simp [IntKind.wrap, IntKind.signed, IntKind.bits]; omega
/-- Stores of cells, one by one, are one store of the row. -/
theorem setCells_setRow (w : World) (b o : Nat) (l : List Value) (cs : Array Value) (t : TypeId) (hg : w.heap[b]? = some (.cells cs t (0, 0))) (hfit : o + l.length ≤ cs.size) (h1 : ∀ v ∈ l, v.oneCell' = true) :
    w.setCells b o l = w.setRow b (cs.toList.take o ++ l ++ cs.toList.drop (o + l.length)).toArray := by
  have e1 := run_storeCells_at Try.prog b o t l 0 cs w hg (by simpa using hfit) h1
  have e2 := run_storeCells_cells (P := Try.prog) b o l 0 w (fun j hj => by simp [World.cell?, hg]; omega) (fun j hj => by simp [World.frozen?, hg]) h1
  rw [e1] at e2
  simp only [Nat.add_zero] at e2
  injection e2 with _ e3
  exact e3.symm

/-- A row of n elements of k cells: nothing, or cells of a block, from some place on. -/
def Row (E : TypeId) (k : Nat) (w : World) (v : Value) (n : Nat) (xs : List Value) (G : List Nat) : Prop :=
  xs.length = n * k ∧ ((v = .slice none 0 0 ∧ n = 0 ∧ G = []) ∨
    ∃ g off cap cur, G = [g] ∧ v = .slice (some ⟨g, off, none⟩) n cap ∧ w.heap[g]? = some (.cells cur E (0, 0)) ∧ n ≤ cap ∧ cap ≤ maxLen ∧ off + cap * k ≤ cur.size ∧ (cur.toList.drop off).take (n * k) = xs)
section
variable {E : TypeId} {k : Nat} {w w' : World} {v : Value} {n : Nat} {xs : List Value} {G : List Nat}
theorem Row.same (h : Row E k w v n xs G) (s : Same G w w') : Row E k w' v n xs G := by
  refine ⟨h.1, ?_⟩
  rcases h.2 with h | ⟨g, off, cap, cur, rfl, h2, h3, h4⟩
  · exact .inl h
  · exact .inr ⟨g, off, cap, cur, rfl, h2, by rw [s g (by simp)]; exact h3, h4⟩
theorem Row.own (h : Row E k w v n xs G) : Own 0 w G := by
  rcases h.2 with ⟨_, _, rfl⟩ | ⟨g, off, cap, cur, rfl, h2, h3, h4⟩
  · exact Own.nil _ _
  · exact ⟨by simp, fun x hx => by simp at hx; subst hx; exact ⟨Nat.zero_le _, heap_lt h3⟩⟩
theorem Row.nil (E : TypeId) (k : Nat) (w : World) : Row E k w (.slice none 0 0) 0 [] [] := ⟨by simp, .inl ⟨rfl, rfl, rfl⟩⟩
theorem Row.form (h : Row E k w v n xs G) : ∃ a c, v = .slice a n c ∧ n ≤ c ∧ c ≤ maxLen := by
  rcases h.2 with ⟨rfl, rfl, _⟩ | ⟨g, off, cap, cur, _, rfl, _, h4, h5, _⟩
  · exact ⟨_, _, rfl, Nat.le_refl _, Nat.zero_le _⟩
  · exact ⟨_, _, rfl, h4, h5⟩
theorem Row.le (h : Row E k w v n xs G) : n ≤ maxLen := by
  obtain ⟨a, c, _, h1, h2⟩ := h.form
  omega
/-- Where there is an element. -/
theorem Row.there (h : Row E k w v n xs G) (hn : 0 < n) : ∃ g off cap, v = .slice (some ⟨g, off, none⟩) n cap ∧ G = [g] ∧ n ≤ cap ∧ cap ≤ maxLen ∧ ∀ i u, xs[i]? = some u → w.cell? ⟨g, off + i, none⟩ = some u ∧ w.frozen? ⟨g, off + i, none⟩ = false := by
  rcases h.2 with ⟨_, h0, _⟩ | ⟨g, off, cap, cur, h1, h2, h3, h4, h5, h6, h7⟩
  · omega
  · refine ⟨g, off, cap, h2, h1, h4, h5, fun i u hu => ⟨?_, by simp [World.frozen?, h3]⟩⟩
    rw [← h7, List.getElem?_take] at hu
    split at hu
    · rw [List.getElem?_drop] at hu
      simp [World.cell?, h3]
      simpa using hu
    · cases hu
theorem set_at {w : World} {b : Nat} {cs : Array Value} {t : TypeId} (h : w.heap[b]? = some (.cells cs t (0, 0))) (o : Nat) (u : Value) : (w.setCell ⟨b, o, none⟩ u).heap[b]? = some (.cells (cs.setIfInBounds o u) t (0, 0)) := by
  show (w.heap.modify b _)[b]? = _
  rw [Array.getElem?_modify, if_pos rfl, h]
  rfl
/-- An element's cell is written. -/
theorem Row.setCell (h : Row E k w v n xs G) {g off cap : Nat} (hv : v = .slice (some ⟨g, off, none⟩) n cap) (i : Nat) (hi : i < n * k) (u : Value) : Row E k (w.setCell ⟨g, off + i, none⟩ u) v n (xs.set i u) G := by
  refine ⟨by rw [List.length_set]; exact h.1, ?_⟩
  rcases h.2 with ⟨h1, h2, _⟩ | ⟨g', off', cap', cur, h1, h2, h3, h4, h5, h6, h7⟩
  · rw [hv] at h1; cases h1
  · rw [hv] at h2
    cases h2
    refine .inr ⟨g, off, cap, _, h1, hv, set_at h3 _ u, h4, h5, by simpa using h6, ?_⟩
    rw [Array.toList_setIfInBounds, ← h7]
    apply List.ext_getElem?
    intro j
    have hcs : off + n * k ≤ cur.size := Nat.le_trans (Nat.add_le_add_left (Nat.mul_le_mul_right k h4) off) h6
    by_cases hj : j < n * k
    · by_cases e : i = j
      · subst e
        rw [List.getElem?_take_of_lt hj, List.getElem?_drop, List.getElem?_set_self (by simpa using (by omega : off + i < cur.size)), List.getElem?_set_self (by simp; omega)]
      · rw [List.getElem?_take_of_lt hj, List.getElem?_drop, List.getElem?_set_ne (by omega), List.getElem?_set_ne e, List.getElem?_take_of_lt hj, List.getElem?_drop]
    · rw [List.getElem?_eq_none (by simp; omega), List.getElem?_eq_none (by simp; omega)]
theorem Row.ofOwns {B : Nat} (h : w.ownsRow B E k v n xs) : ∃ G, Row E k w v n xs G ∧ ∀ g ∈ G, B ≤ g := by
  rcases h.2 with ⟨h1, h2⟩ | ⟨g, cap, cur, h1, h2, h3, h4, h5, h6, h7⟩
  · exact ⟨[], ⟨h.1, .inl ⟨h1, h2, rfl⟩⟩, fun _ h => by cases h⟩
  · exact ⟨[g], ⟨h.1, .inr ⟨g, 0, cap, cur, rfl, h1, h3, h4, h5, by omega, by simpa using h7⟩⟩, fun x hx => by simp at hx; omega⟩
end

theorem take_len_append {α : Type} (A R : List α) (m : Nat) (h : A.length = m) : (A ++ R).take m = A := by subst h; simp
theorem drop_len_append {α : Type} (A R : List α) (m : Nat) (h : A.length = m) : (A ++ R).drop m = R := by subst h; simp
/-- What an insertion in place leaves in a row. -/
theorem ins_shift {α : Type} (L xs news C1 C2 : List α) (off p q k : Nat) (hx : (L.drop off).take q = xs) (hp : p ≤ q) (hk : news.length = k) (hl : off + q + k ≤ L.length)
    (h1 : C1 = L.take (off + p + k) ++ xs.drop p ++ L.drop (off + p + k + (xs.drop p).length)) (h2 : C2 = C1.take (off + p) ++ news ++ C1.drop (off + p + news.length)) :
    C2.length = L.length ∧ (C2.drop off).take (q + k) = xs.take p ++ (news ++ xs.drop p) := by
  have hxl : xs.length = q := by rw [← hx]; simp; omega
  have e1 : C1.take (off + p) = L.take (off + p) := by
    rw [h1, List.append_assoc, List.take_append_of_le_length (by simp; omega), List.take_take, Nat.min_eq_left (by omega)]
  have e2 : C1.drop (off + p + k) = xs.drop p ++ L.drop (off + p + k + (xs.drop p).length) := by
    rw [h1, List.append_assoc, drop_len_append _ _ _ (by simp; omega)]
  rw [e1, hk, e2] at h2
  have e3 : (L.take (off + p)).drop off = xs.take p := by
    rw [← hx, List.take_take, Nat.min_eq_left hp, List.drop_take, show off + p - off = p by omega]
  refine ⟨by rw [h2]; simp [hxl, hk]; omega, ?_⟩
  have e4 : C2.drop off = (xs.take p ++ (news ++ xs.drop p)) ++ L.drop (off + p + k + (xs.drop p).length) := by
    rw [h2, List.append_assoc, List.drop_append_of_le_length (by simp; omega), e3]
    simp
  rw [e4, take_len_append _ _ _ (by simp [hxl, hk]; omega)]

/-- The block of a slice that owns its row. -/
def ob (v : Value) : List Nat := match v.ownBlock with | some k => [k] | none => []
theorem mem_ob {v : Value} {k : Nat} : k ∈ ob v ↔ v.ownBlock = some k := by
  unfold ob
  cases h : v.ownBlock with
  | none => simp
  | some g => simp [eq_comm]
theorem Turn.grown {w w' : World} {v v' : Value} (h : w.grownBy w' v.ownBlock) (k : v'.ownBlock = v.ownBlock ∨ v'.ownBlock = some w.heap.size) : Turn (ob v) (ob v') w w' := by
  refine ⟨(Chg.grown h).mono fun k _ hk => mem_ob.2 hk, fun g hg => ?_⟩
  have hg' := mem_ob.1 hg
  rcases k with k | k
  · rw [k] at hg'; exact .inl (mem_ob.2 hg')
  · rw [k] at hg'; cases hg'; exact .inr (Nat.le_refl _)
theorem Turn.ownsBelow {w w' : World} {B : Nat} {E : TypeId} {k n : Nat} {v v' : Value} {xs : List Value} (h : Turn (ob v) (ob v') w w') (o : w.ownsRow B E k v n xs) (hB : B ≤ w.heap.size) : Below B w w' :=
  h.chg.below (fun g hg => (o.lt g (mem_ob.1 hg)).1) hB

end Go.Proofs.Ytgafnilcmhjpcaa.HMem
