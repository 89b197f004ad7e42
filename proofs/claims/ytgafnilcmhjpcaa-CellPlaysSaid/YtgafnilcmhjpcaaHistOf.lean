/- A histogram of numbers: the laws' own `of`, walked. -/
import Derived.Test.YtgafnilcmhjpcaaHistUse
namespace Go.Proofs.Ytgafnilcmhjpcaa.HHist
set_option linter.unusedVariables false
open Go.RowKit Go.Proofs.Ytgafnilcmhjpcaa.HMem Go.Proofs.Ytgafnilcmhjpcaa.HBucket
open Go.Proofs.Ytgafnilcmhjpcaa.Print (I64)

/-- A row of whole numbers that is only read. -/
def NRow (k : IntKind) (w : World) (v : Value) (ns : List Int) : Prop :=
  (v = .slice none 0 0 ∧ ns = []) ∨ ∃ a c, v = .slice (some a) ns.length c ∧ ns.length ≤ c ∧ c ≤ maxLen ∧ ∀ i x, ns[i]? = some x → w.cell? (a.add i) = some (.int k x)
theorem NRow.mono {k : IntKind} {w w' : World} {v : Value} {ns : List Int} (h : NRow k w v ns) (b : Below w.heap.size w w') : NRow k w' v ns := by
  rcases h with h | ⟨a, c, h1, h2, h3, h4⟩
  · exact .inl h
  · refine .inr ⟨a, c, h1, h2, h3, fun i x hx => ?_⟩
    have h := h4 i x hx
    have hl : (a.add i).block < w.heap.size := by
      rcases Nat.lt_or_ge (a.add i).block w.heap.size with hl | hg
      · exact hl
      · exfalso
        have : w.heap[(a.add i).block]? = none := Array.getElem?_eq_none hg
        simp [World.cell?, this] at h
    rw [← h]
    exact World.cell?_of_block (b.block _ hl)
theorem NRow.form {k : IntKind} {w : World} {v : Value} {ns : List Int} (h : NRow k w v ns) : ∃ a c, v = .slice a ns.length c ∧ ns.length ≤ c ∧ c ≤ maxLen ∧ ∀ i x, ns[i]? = some x → ∃ a', a = some a' ∧ w.cell? (a'.add i) = some (.int k x) := by
  rcases h with ⟨rfl, rfl⟩ | ⟨a, c, h1, h2, h3, h4⟩
  · exact ⟨none, 0, rfl, Nat.le_refl _, Nat.zero_le _, fun i x h => by simp at h⟩
  · exact ⟨some a, c, h1, h2, h3, fun i x hx => ⟨a, rfl, h4 i x hx⟩⟩
theorem NRow.none {k : IntKind} {w : World} {a : Option Addr} {n c : Nat} {ns : List Int} (h : NRow k w (.slice a n c) ns) (ha : a = Option.none) : n = 0 ∧ c = 0 := by
  rcases h with ⟨e, _⟩ | ⟨a', c', e, _⟩
  · cases e; exact ⟨rfl, rfl⟩
  · cases e; cases ha
theorem NRow.cells {k : IntKind} {w : World} {a : Option Addr} {n c : Nat} {ns : List Int} (h : NRow k w (.slice a n c) ns) : ns.length = n ∧ ∀ ad, a = some ad → ∀ i x, ns[i]? = some x → w.cell? (ad.add i) = some (.int k x) := by
  rcases h with ⟨e, rfl⟩ | ⟨a', c', e, _, _, h⟩
  · cases e; exact ⟨rfl, fun ad ha => by cases ha⟩
  · cases e; exact ⟨rfl, fun ad ha => by cases ha; exact h⟩
theorem NRow.take {k : IntKind} {w : World} {a : Option Addr} {n c : Nat} {ns : List Int} (h : NRow k w (.slice a n c) ns) (m : Nat) (hm : m ≤ n) : NRow k w (.slice a m c) (ns.take m) := by
  rcases h with ⟨e, rfl⟩ | ⟨a', c', e, h2, h3, h4⟩
  · cases e
    obtain rfl : m = 0 := by omega
    exact .inl ⟨rfl, by simp⟩
  · cases e
    refine .inr ⟨a', c, ?_, ?_, h3, fun i x hx => ?_⟩
    · rw [List.length_take, Nat.min_eq_left hm]
    · rw [List.length_take]; omega
    · rw [List.getElem?_take] at hx
      split at hx
      · exact h4 i x hx
      · cases hx
theorem i64_wf {x : Int} (h : (Lit.int .i64 x).wf = true) : I64 x := by simpa [I64, Lit.wf, IntKind.min, IntKind.max, IntKind.signed, IntKind.bits] using h
theorem i8_wf {x : Int} (h : (Lit.int .i8 x).wf = true) : -128 ≤ x ∧ x ≤ 127 := by simpa [Lit.wf, IntKind.min, IntKind.max, IntKind.signed, IntKind.bits] using h
theorem u8_wf {x : Int} (h : (Lit.int .u8 x).wf = true) : ∃ n : Nat, x = n ∧ n < 256 := by
  have : 0 ≤ x ∧ x ≤ 255 := by simpa [Lit.wf, IntKind.min, IntKind.max, IntKind.signed, IntKind.bits] using h
  exact ⟨x.toNat, by omega, by omega⟩
theorem u16_wf {x : Int} (h : (Lit.int .u16 x).wf = true) : ∃ n : Nat, x = n ∧ n < 65536 := by
  have : 0 ≤ x ∧ x ≤ 65535 := by simpa [Lit.wf, IntKind.min, IntKind.max, IntKind.signed, IntKind.bits] using h
  exact ⟨x.toNat, by omega, by omega⟩
theorem u64_wf {x : Int} (h : (Lit.int .u64 x).wf = true) : ∃ n : Nat, x = n ∧ n < 18446744073709551616 := by
  have : 0 ≤ x ∧ x ≤ 18446744073709551615 := by simpa [Lit.wf, IntKind.min, IntKind.max, IntKind.signed, IntKind.bits] using h
  exact ⟨x.toNat, by omega, by omega⟩
def ofL (b : Nat) (ns : List Int) : IL := ns.foldl (fun l n => moreL l (ofZ b n) 1) []
theorem ofL_snoc (b : Nat) (ns : List Int) (n : Int) : ofL b (ns ++ [n]) = moreL (ofL b ns) (ofZ b n) 1 := by unfold ofL; rw [List.foldl_append]; rfl
theorem total_fold (b : Nat) : ∀ (ns : List Int) (l : IL), total (ns.foldl (fun l n => moreL l (ofZ b n) 1) l) = total l + ns.length
  | [], l => rfl
  | n :: r, l => by rw [List.foldl_cons, total_fold b r, total_moreL, List.length_cons]; omega
theorem total_ofL (b : Nat) (ns : List Int) : total (ofL b ns) = ns.length := by unfold ofL; rw [total_fold]; simp [total]
theorem addL_ofL (b : Nat) (ns : List Int) (n : Int) (h : ns.length < 1099511627776) : addL b (ofL b ns) n = (ofL b (ns ++ [n]), 0) := by
  unfold addL
  rw [total_ofL, if_neg (by omega), ofL_snoc]

end Go.Proofs.Ytgafnilcmhjpcaa.HHist
