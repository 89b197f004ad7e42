/- Several texts in one: The reference's histogram of one's own; same, number, walked. Conditions: what histograms hold. Two histograms, the program's and the reference's, side by side: contracts. Conditions: what histograms hold. -/
import Derived.Test.YtgafnilcmhjpcaaRefAll
import Derived.Test.YtgafnilcmhjpcaaHistUse
import Derived.Test.YtgafnilcmhjpcaaHistOf
namespace Go.Proofs.Ytgafnilcmhjpcaa.HHist
set_option linter.unusedVariables false
open Go.RowKit Go.Proofs.Ytgafnilcmhjpcaa.HMem Go.Proofs.Ytgafnilcmhjpcaa.HBucket Go.Proofs.Ytgafnilcmhjpcaa.HApp
open Go.Proofs.Ytgafnilcmhjpcaa.Print (I64)

/-- A reference's histogram of one's own: all its blocks are from some place on. -/
def RSH (B : Nat) (w : World) (p b : Nat) (l : IL) : Prop := ∃ G, RHistAt w p G b l ∧ HOk b l ∧ ∀ g ∈ G, B ≤ g
theorem RSH.mono {B : Nat} {w w' : World} {p b : Nat} {l : IL} (h : RSH B w p b l) (k : Below w.heap.size w w') : RSH B w' p b l := by
  obtain ⟨G, h1, h2, h3⟩ := h
  exact ⟨G, h1.mono k, h2, h3⟩
theorem RSH.ok {B : Nat} {w : World} {p b : Nat} {l : IL} (h : RSH B w p b l) : HOk b l := by
  obtain ⟨G, h1, h2, h3⟩ := h
  exact h2
theorem r_new (b : Nat) (w : World) (hb : b ≤ 4) :
    Calls Try.prog 39 #[.int .i64 b] w fun e w' => e = .returned (.pointer (some ⟨w.heap.size, 0, none⟩)) ∧ RSH w.heap.size w' w.heap.size b [] ∧ Below w.heap.size w w' :=
  (rNew_yes b w hb).mono fun e w' ⟨h1, h2, h3⟩ => ⟨h1, ⟨_, h2, HOk.nil hb, fun g hg => by simp at hg; omega⟩, h3⟩
theorem r_add {B : Nat} {w : World} {p b : Nat} {l : IL} (h : RSH B w p b l) (hB : B ≤ w.heap.size) (n : Int) (hn : I64 n) :
    Calls Try.prog 40 #[.pointer (some ⟨p, 0, none⟩), .int .i64 n] w fun e w' => e = .returned (.int .i64 (addL b l n).2) ∧ RSH B w' p b (addL b l n).1 ∧ Below B w w' := by
  obtain ⟨G, h1, h2, h3⟩ := h
  refine (rAdd_any h1 h2 n hn).mono ?_
  rintro e w' ⟨rfl, G', k1, k2⟩
  refine ⟨rfl, ⟨G', k1, h2.add hn, fun g hg => ?_⟩, k2.chg.below h3 hB⟩
  rcases k2.foot g hg with h' | h'
  · exact h3 g h'
  · omega
theorem r_put {B : Nat} {w : World} {p b : Nat} {l : IL} (h : RSH B w p b l) :
    Calls Try.prog 37 #[.pointer (some ⟨p, 0, none⟩)] w fun e w' => e = .returned (.string (strOfNums (encL b l))) ∧ Below w.heap.size w w' := by
  obtain ⟨G, h1, h2, h3⟩ := h
  exact rPut_any h1 h2

/-- Deed.number. -/
def numZ (k : Nat) (n : Int) : Int := if k % 16 < 12 then n.tmod 40 else n
end Go.Proofs.Ytgafnilcmhjpcaa.HHist
namespace Go.Proofs.Ytgafnilcmhjpcaa.HHist
set_option linter.unusedVariables false
open Go.RowKit Go.Proofs.Ytgafnilcmhjpcaa.HMem Go.Proofs.Ytgafnilcmhjpcaa.HBucket Go.Proofs.Ytgafnilcmhjpcaa.HApp
open Go.Proofs.Ytgafnilcmhjpcaa.Print (I64)

/-- Both, apart, from some place on. -/
structure PQ (B : Nat) (w : World) (p q b : Nat) (G F : List Nat) (l m : IL) : Prop where
  h : HistAt w p G b l
  x : RHistAt w q F b m
  ho : HOk b l
  xo : HOk b m
  own : Own B w (G ++ F)
theorem PQ.mono {B : Nat} {w w' : World} {p q b : Nat} {G F : List Nat} {l m : IL} (h : PQ B w p q b G F l m) (k : Below w.heap.size w w') : PQ B w' p q b G F l m :=
  ⟨h.h.mono k, h.x.mono k, h.ho, h.xo, h.own.size k.size⟩
/-- What stands beside turns: both stay. -/
theorem PQ.keep {B C : Nat} {w w' : World} {p q b : Nat} {G F : List Nat} {l m : IL} (h : PQ B w p q b G F l m) (k : Below C w w') (hC : ∀ g ∈ G ++ F, g < C) : PQ B w' p q b G F l m :=
  ⟨h.h.same fun g hg => k.block g (hC g (List.mem_append_left _ hg)), h.x.same fun g hg => k.block g (hC g (List.mem_append_right _ hg)), h.ho, h.xo, h.own.size k.size⟩
theorem pq_addh {B : Nat} {w : World} {p q b : Nat} {G F : List Nat} {l m : IL} (h : PQ B w p q b G F l m) (n : Int) (hn : I64 n) (hB : B ≤ w.heap.size) :
    Calls Try.prog 26 #[.pointer (some ⟨p, 0, none⟩), .int .i64 n] w fun e w' => e = .returned (.int .i64 (addL b l n).2) ∧ ∃ G', PQ B w' p q b G' F (addL b l n).1 m ∧ Turn G G' w w' := by
  refine (Add_any h.h h.ho n hn).mono ?_
  rintro e w' ⟨rfl, G', k1, k2⟩
  exact ⟨rfl, G', ⟨k1, h.x.same (k2.same h.own), h.ho.add hn, h.xo, k2.own h.own hB k1.own⟩, k2⟩
theorem pq_addx {B : Nat} {w : World} {p q b : Nat} {G F : List Nat} {l m : IL} (h : PQ B w p q b G F l m) (n : Int) (hn : I64 n) (hB : B ≤ w.heap.size) :
    Calls Try.prog 40 #[.pointer (some ⟨q, 0, none⟩), .int .i64 n] w fun e w' => e = .returned (.int .i64 (addL b m n).2) ∧ ∃ F', PQ B w' p q b G F' l (addL b m n).1 ∧ Turn F F' w w' := by
  refine (rAdd_any h.x h.xo n hn).mono ?_
  rintro e w' ⟨rfl, F', k1, k2⟩
  exact ⟨rfl, F', ⟨h.h.same (k2.same' h.own), k1, h.ho, h.xo.add hn, k2.own' h.own hB k1.own⟩, k2⟩
theorem pq_mergeh {B C : Nat} {w : World} {p q b : Nat} {G F : List Nat} {l m : IL} (h : PQ B w p q b G F l m) {p2 q2 c : Nat} {G2 F2 : List Nat} {l2 m2 : IL} (k : PQ C w p2 q2 c G2 F2 l2 m2) (hC : ∀ g ∈ G ++ F, g < C) (hB : B ≤ w.heap.size) :
    Calls Try.prog 58 #[.pointer (some ⟨p, 0, none⟩), .pointer (some ⟨p2, 0, none⟩)] w fun e w' => e = .returned (.int .i64 (mergeL b l c l2).2) ∧ ∃ G', PQ B w' p q b G' F (mergeL b l c l2).1 m ∧ RHistAt w' q2 F2 c m2 ∧ Turn G G' w w' := by
  refine (Merge_any h.h k.h h.ho k.ho fun x hx hx2 => ?_).mono ?_
  · have h1 := hC x (List.mem_append_left _ hx)
    have h2 := (k.own.mem x (List.mem_append_left _ hx2)).1
    omega
  rintro e w' ⟨rfl, G', k1, k2⟩
  refine ⟨rfl, G', ⟨k1, h.x.same (k2.same h.own), h.ho.merge k.ho, h.xo, k2.own h.own hB k1.own⟩, k.x.same fun g hg => ?_, k2⟩
  have h2 := k.own.mem g (List.mem_append_right _ hg)
  exact k2.chg.block g h2.2 fun h' => by have := hC g (List.mem_append_left _ h'); omega
theorem pq_mergex {B : Nat} {w : World} {p q b : Nat} {G F : List Nat} {l m : IL} (h : PQ B w p q b G F l m) {q2 c : Nat} {F2 : List Nat} {m2 : IL} (k : RHistAt w q2 F2 c m2) (ko : HOk c m2) (hB : B ≤ w.heap.size) :
    Calls Try.prog 61 #[.pointer (some ⟨q, 0, none⟩), .pointer (some ⟨q2, 0, none⟩)] w fun e w' => e = .returned (.int .i64 (mergeL b m c m2).2) ∧ ∃ F', PQ B w' p q b G F' l (mergeL b m c m2).1 ∧ Turn F F' w w' := by
  refine (rMerge_any h.x k h.xo ko).mono ?_
  rintro e w' ⟨rfl, F', k1, k2⟩
  exact ⟨rfl, F', ⟨h.h.same (k2.same' h.own), k1, h.ho, h.xo.merge ko, k2.own' h.own hB k1.own⟩, k2⟩
theorem PQ.new {w w1 w2 : World} {p q b : Nat} (h : HistAt w1 p [p] b []) (k : RHistAt w2 q [q] b []) (hb : b ≤ 4) (e1 : p = w.heap.size) (e2 : q = w1.heap.size) (b1 : Below w.heap.size w w1) (b2 : Below w1.heap.size w1 w2) : PQ w.heap.size w2 p q b [p] [q] [] [] := by
  have hp := (h.own.mem p (by simp)).2
  have hq := (k.own.mem q (by simp)).2
  refine ⟨h.mono b2, k, HOk.nil hb, HOk.nil hb, ⟨by simp; omega, fun g hg => ?_⟩⟩
  have := b1.size
  have := b2.size
  simp at hg
  rcases hg with rfl | rfl <;> omega

/-- A deed: its kind, a number, numbers, its bits. -/
structure Hd where
  kind : Int
  n : Int
  la : Option Addr
  lc : Nat
  zs : List Int
  bits : Int
def Hd.cs (d : Hd) : List Value := [.int .u8 d.kind, .int .i64 d.n, .slice d.la d.zs.length d.lc, .int .i64 d.bits]
/-- A row of deeds, only read. -/
def HRow (w : World) (v : Value) (n : Nat) (D : Nat → Hd) : Prop :=
  (∃ a c, v = .slice a n c ∧ (n = 0 ∨ ∃ ad, a = some ad ∧ ∀ i, i < n → ∀ j u, (D i).cs[j]? = some u → w.cell? ((ad.add (i * 4)).add j) = some u)) ∧
  ∀ i, i < n → (0 ≤ (D i).kind ∧ (D i).kind < 256) ∧ I64 (D i).n ∧ I64 (D i).bits ∧ NRow .i64 w (.slice (D i).la (D i).zs.length (D i).lc) (D i).zs ∧ ∀ x ∈ (D i).zs, I64 x
theorem numZ_in (k : Nat) (n : Int) (hn : I64 n) : I64 (numZ k n) := by
  unfold numZ
  split
  · unfold I64 at *
    have := Int.tmod_lt_of_pos n (show (0 : Int) < 40 by decide)
    have := Int.lt_tmod_of_pos n (show (0 : Int) < 40 by decide)
    omega
  · exact hn
end Go.Proofs.Ytgafnilcmhjpcaa.HHist
