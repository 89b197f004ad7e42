/- Labels: the rows' parameters opened: a row of bytes, a row of such rows, a row of labels. Conditions: none. -/
import Derived.Test.YtlmnniajindlgaaLab16
import Derived.ProofKit
import Derived.OpenShut
import Derived.ShutString
import Derived.ChangeOld
import Derived.SizedLaws
import Derived.JoinedOf
import Derived.Lib.SmallJoins
namespace Go.Proofs.Ytlmnniajindlgaa.HLab
set_option linter.unusedVariables false
open Go.RowKit Go.Proofs.Ytlmnniajindlgaa.HMem Go.Proofs.Ytlmnniajindlgaa.HBld Go.Proofs.Ytlmnniajindlgaa.HApp
open Go.ChangeShapes Go.WideShapes Go.ChangeAt Go.Joins Go.Deep

theorem cellsB : Try.prog.cellsOf 5 = 1 := by kernel_rfl
theorem cellsBs : Try.prog.cellsOf 23 = 1 := by kernel_rfl
theorem cellsL : Try.prog.cellsOf 42 = 2 := by kernel_rfl
theorem cellsS : Try.prog.cellsOf 9 = 1 := by kernel_rfl
theorem bytesL : Try.prog.bytesOf 42 = 32 := by kernel_rfl
theorem weightsAll_mem {H : Type} {P : Program} {e : TypeId} : ∀ {l : List (DataW H)} {d : DataW H}, d ∈ l → ∀ n ∈ d.weights P e, n ∈ DataW.weightsAll P e l
  | d' :: r, d, hd, n, hn => by
    simp only [DataW.weightsAll, List.mem_append]
    rcases List.mem_cons.1 hd with rfl | h
    · exact Or.inl hn
    · exact Or.inr (weightsAll_mem h n hn)
theorem open_bytes {H : Type} {enc : TypeId × Value → H} {W : World} {base : Nat} {sp : Nat → Bool} {held : Bool} {fuel : Nat} {cs : List Value} {x : DataW H × List MemPlace} (h : DataW.trod enc Try.prog W base sp held fuel 23 cs = some x) :
    ∃ (v : Value) (xs : List UInt8), cs = [v] ∧ URow W v xs := by
  rcases open_ints Try.underlying23 Try.underlying5 cellsB h with ⟨hcs, _⟩ | ⟨x, l, cp, zs, hcs, _, hl, hm, hz, _, hcell, hwz⟩
  · exact ⟨_, [], hcs, none, 0, rfl, Nat.le_refl _, Nat.zero_le _, fun i x hx => by simp at hx⟩
  · have hle : l ≤ zs.length := by rw [hz]; split <;> omega
    have hlen : ((zs.take l).map fun z => UInt8.ofNat z.toNat).length = l := by rw [List.length_map, List.length_take]; omega
    refine ⟨_, (zs.take l).map fun z => UInt8.ofNat z.toNat, hcs, some x, cp, by rw [hlen], by rw [hlen]; exact hl, hm, fun i u hu => ⟨x, rfl, ?_⟩⟩
    rw [List.getElem?_map, List.getElem?_take] at hu
    split at hu
    · rename_i hi
      have hi2 : i < zs.length := by omega
      rw [List.getElem?_eq_getElem hi2] at hu
      simp at hu
      have hc := hcell i hi2
      have hw := hwz _ (List.getElem_mem hi2)
      have b1 : 0 ≤ zs[i] ∧ zs[i] ≤ 255 := by simpa [Lit.wf, IntKind.min, IntKind.max, IntKind.signed, IntKind.bits] using hw
      rw [hc, List.getD_eq_getElem?_getD, List.getElem?_eq_getElem hi2, ← hu, UInt8.toNat_ofNat', Option.getD_some]
      congr 2
      omega
    · cases hu
theorem open_rows {H : Type} {enc : TypeId × Value → H} {W : World} {base : Nat} {sp : Nat → Bool} {held : Bool} {fuel : Nat} {cs : List Value} {x : DataW H × List MemPlace} (h : DataW.trod enc Try.prog W base sp held fuel 22 cs = some x) :
    ∃ (v : Value) (ls : List (List UInt8)), cs = [v] ∧ WRow W v ls := by
  rcases open_slice Try.underlying22 h with ⟨hcs, _⟩ | ⟨x, l, c, m, n, D, Pl, hcs, hb, hl, hm, hmm, hx, hcell⟩
  · exact ⟨_, [], hcs, none, 0, rfl, Nat.le_refl _, Nat.zero_le _, fun i x hx => by simp at hx⟩
  · have hlm : l ≤ m := by rw [hmm]; split <;> omega
    have each : ∀ i, i < l → ∃ xs : List UInt8, ∃ v, W.cell? (x.add i) = some v ∧ URow W v xs := fun i hi => by
      obtain ⟨cs', e1, e2⟩ := hcell i (by omega)
      rw [cellsBs] at e1
      obtain ⟨v, xs, rfl, e3⟩ := open_bytes e2
      rw [Nat.mul_one] at e1
      exact ⟨xs, v, cell_of_cells?_one e1, e3⟩
    obtain ⟨F, hF⟩ := choose_lt each
    have hlen : ((List.range l).map F).length = l := by rw [List.length_map, List.length_range]
    refine ⟨_, (List.range l).map F, hcs, some x, c, by rw [hlen], by rw [hlen]; exact hl, hm, fun i u hu => ?_⟩
    rw [List.getElem?_map] at hu
    rcases Nat.lt_or_ge i l with hi | hi
    · rw [List.getElem?_range hi] at hu
      simp at hu
      obtain ⟨v, h1, h2⟩ := hF i hi
      exact ⟨x, v, rfl, h1, hu ▸ h2⟩
    · rw [List.getElem?_eq_none (by simpa using hi)] at hu
      cases hu
theorem open_label {H : Type} {enc : TypeId × Value → H} {W : World} {base : Nat} {sp : Nat → Bool} {held : Bool} {fuel : Nat} {cs : List Value} {x : DataW H × List MemPlace} (h : DataW.trod enc Try.prog W base sp held fuel 42 cs = some x) :
    ∃ d : ByteArray × ByteArray, cs = [.string d.1, .string d.2] ∧ x.1 = .agg [.lit (.string d.1.data.toList), .lit (.string d.2.data.toList)] := by
  obtain ⟨y0, y1, n, rfl, hl, h0, h1⟩ := trod_struct2 Try.underlying42 h
  rw [cellsL] at hl
  obtain ⟨c0, c1, rfl⟩ : ∃ c0 c1, cs = [c0, c1] := by
    match cs, hl with
    | [c0, c1], _ => exact ⟨_, _, rfl⟩
  simp only [cellsS, List.drop, List.take] at h0 h1
  obtain ⟨s, e2, rfl, ws⟩ := DataW.trod_string Try.underlying9 h0
  obtain ⟨r, e3, rfl, wr⟩ := DataW.trod_string Try.underlying9 h1
  simp at e2 e3
  subst e2 e3
  exact ⟨(s, r), rfl, rfl⟩
theorem open_labels {H : Type} {enc : TypeId × Value → H} {W : World} {base : Nat} {sp : Nat → Bool} {held : Bool} {fuel : Nat} {cs : List Value} {x : DataW H × List MemPlace} (h : DataW.trod enc Try.prog W base sp held fuel 28 cs = some x)
    (hw : ∀ n ∈ x.1.weights Try.prog 28, n ≤ reachBytes) :
    ∃ (v : Value) (l : LL), cs = [v] ∧ LRow W v l ∧ l.length ≤ 4398046511000 ∧ ∀ y ∈ l, y.1.size ≤ 140737488355328 ∧ y.2.size ≤ 140737488355328 := by
  rcases open_slice Try.underlying28 h with ⟨hcs, _⟩ | ⟨x, l, c, m, n, D, Pl, hcs, hb, hl, hm, hmm, rfl, hcell⟩
  · exact ⟨_, [], hcs, ⟨none, 0, rfl, Nat.le_refl _, Nat.zero_le _, .inl rfl⟩, by decide, fun y hy => by cases hy⟩
  · have hlm : l ≤ m := by rw [hmm]; split <;> omega
    simp only [DataW.weights, Try.underlying28, List.mem_cons, List.mem_append, bytesL] at hw
    have hbig := hw _ (.inl rfl)
    have each : ∀ i, i < l → ∃ d : ByteArray × ByteArray, W.cells? base (x.add (i * 2)) 2 = some [.string d.1, .string d.2] ∧ D i = .agg [.lit (.string d.1.data.toList), .lit (.string d.2.data.toList)] := fun i hi => by
      obtain ⟨cs', e1, e2⟩ := hcell i (by omega)
      rw [cellsL] at e1
      obtain ⟨d, rfl, e3⟩ := open_label e2
      exact ⟨d, e1, e3⟩
    haveI : Inhabited (ByteArray × ByteArray) := ⟨(⟨#[]⟩, ⟨#[]⟩)⟩
    obtain ⟨F, hF⟩ := choose_lt each
    have hlen : ((List.range l).map F).length = l := by rw [List.length_map, List.length_range]
    refine ⟨_, (List.range l).map F, hcs, ⟨some x, c, by rw [hlen], by rw [hlen]; exact hl, hm, .inr ⟨x, rfl, fun i u hu => ?_⟩⟩, ?_, fun y hy => ?_⟩
    · rw [List.getElem?_map] at hu
      rcases Nat.lt_or_ge i l with hi | hi
      · rw [List.getElem?_range hi] at hu
        simp at hu
        subst hu
        have h2 := (World.cells?_some (hF i hi).1).2.2
        have k0 := h2 0 (by decide)
        have k1 := h2 1 (by decide)
        have eb := World.cells?_block (hF i hi).1 (by decide)
        refine ⟨by simpa [Addr.add] using k0, by simpa [Addr.add, block_add] using k1⟩
      · rw [List.getElem?_eq_none (by simpa using hi)] at hu
        cases hu
    · rw [hlen]
      rw [List.length_map, List.length_range] at hbig
      unfold reachBytes at hbig
      omega
    · obtain ⟨i, hi, rfl⟩ := List.mem_map.1 hy
      have hi' := List.mem_range.1 hi
      have hmem : D i ∈ (List.range l).map D := List.mem_map.2 ⟨i, hi, rfl⟩
      have hd := (hF i hi').2
      have w1 := hw (F i).1.data.toList.length (.inr (.inl (weightsAll_mem hmem _ (by rw [hd]; simp [DataW.weights, DataW.weightsEach, Try.underlying42]))))
      have w2 := hw (F i).2.data.toList.length (.inr (.inl (weightsAll_mem hmem _ (by rw [hd]; simp [DataW.weights, DataW.weightsEach, Try.underlying42]))))
      rw [Array.length_toList] at w1 w2
      unfold reachBytes at w1 w2
      have h1 : (F i).1.size = (F i).1.data.size := rfl
      have h2 : (F i).2.size = (F i).2.data.size := rfl
      omega
end Go.Proofs.Ytlmnniajindlgaa.HLab
