/- Histograms: contracts over a histogram of one's own. -/
import Derived.Test.YtgafnilcmhjpcaaHist4
import Derived.Test.YtgafnilcmhjpcaaHist6
import Derived.Test.YtgafnilcmhjpcaaHist8
import Derived.Test.YtgafnilcmhjpcaaHist10
namespace Go.Proofs.Ytgafnilcmhjpcaa.HHist
set_option linter.unusedVariables false
open Go.RowKit Go.Proofs.Ytgafnilcmhjpcaa.HMem Go.Proofs.Ytgafnilcmhjpcaa.HBucket
open Go.Proofs.Ytgafnilcmhjpcaa.Print (I64)

/-- A histogram of one's own: all its blocks are from some place on. -/
def SH (B : Nat) (w : World) (p b : Nat) (l : IL) : Prop := ∃ G, HistAt w p G b l ∧ HOk b l ∧ ∀ g ∈ G, B ≤ g
theorem SH.mono {B : Nat} {w w' : World} {p b : Nat} {l : IL} (h : SH B w p b l) (k : Below w.heap.size w w') : SH B w' p b l := by
  obtain ⟨G, h1, h2, h3⟩ := h
  exact ⟨G, h1.mono k, h2, h3⟩
theorem SH.ok {B : Nat} {w : World} {p b : Nat} {l : IL} (h : SH B w p b l) : HOk b l := by
  obtain ⟨G, h1, h2, h3⟩ := h
  exact h2
theorem bt {B : Nat} {w0 w w' : World} (h : Below B w0 w) (hB : B ≤ w0.heap.size) (k : Below w.heap.size w w') : Below B w0 w' := h.trans (k.mono (Nat.le_trans hB h.size))
theorem bt' {B : Nat} {w0 w w' : World} (h : Below B w0 w) (k : Below B w w') : Below B w0 w' := h.trans k
theorem s_new (b : Nat) (w : World) (hb : b ≤ 4) :
    Calls Try.prog 56 #[.int .i64 b] w fun e w' => e = .returned (.tuple #[.pointer (some ⟨w.heap.size, 0, none⟩), .int .i64 0]) ∧ SH w.heap.size w' w.heap.size b [] ∧ Below w.heap.size w w' :=
  (New_yes b w hb).mono fun e w' ⟨h1, h2, h3⟩ => ⟨h1, ⟨_, h2, HOk.nil hb, fun g hg => by simp at hg; omega⟩, h3⟩
theorem s_add {B : Nat} {w : World} {p b : Nat} {l : IL} (h : SH B w p b l) (hB : B ≤ w.heap.size) (n : Int) (hn : I64 n) :
    Calls Try.prog 26 #[.pointer (some ⟨p, 0, none⟩), .int .i64 n] w fun e w' => e = .returned (.int .i64 (addL b l n).2) ∧ SH B w' p b (addL b l n).1 ∧ Below B w w' := by
  obtain ⟨G, h1, h2, h3⟩ := h
  refine (Add_any h1 h2 n hn).mono ?_
  rintro e w' ⟨rfl, G', k1, k2⟩
  refine ⟨rfl, ⟨G', k1, h2.add hn, fun g hg => ?_⟩, k2.chg.below h3 hB⟩
  rcases k2.foot g hg with h' | h'
  · exact h3 g h'
  · omega
theorem s_put {B : Nat} {w : World} {p b : Nat} {l : IL} (h : SH B w p b l) :
    Calls Try.prog 36 #[.pointer (some ⟨p, 0, none⟩)] w fun e w' => e = .returned (.string (strOfNums (encL b l))) ∧ Below w.heap.size w w' := by
  obtain ⟨G, h1, h2, h3⟩ := h
  exact Put_any h1 h2
theorem s_count {B : Nat} {w : World} {p b : Nat} {l : IL} (h : SH B w p b l) :
    Calls Try.prog 28 #[.pointer (some ⟨p, 0, none⟩)] w fun e w' => e = .returned (.int .u64 (total l : Nat)) ∧ Below w.heap.size w w' := by
  obtain ⟨G, h1, h2, h3⟩ := h
  exact (Count_any h1).mono fun e w' ⟨h, k⟩ => ⟨h, by subst k; exact Below.refl _ _⟩
theorem s_bits {B : Nat} {w : World} {p b : Nat} {l : IL} (h : SH B w p b l) :
    Calls Try.prog 57 #[.pointer (some ⟨p, 0, none⟩)] w fun e w' => e = .returned (.int .i64 b) ∧ Below w.heap.size w w' := by
  obtain ⟨G, h1, h2, h3⟩ := h
  exact (Bits_any h1).mono fun e w' ⟨h, k⟩ => ⟨h, by subst k; exact Below.refl _ _⟩
theorem s_items {B : Nat} {w : World} {p b : Nat} {l : IL} (h : SH B w p b l) :
    Calls Try.prog 75 #[.pointer (some ⟨p, 0, none⟩)] w (HItmCln.Cloned w l.length (flat l)) := by
  obtain ⟨G, h1, h2, h3⟩ := h
  exact Items_any h1 (by have := h2.len; omega)

end Go.Proofs.Ytgafnilcmhjpcaa.HHist
