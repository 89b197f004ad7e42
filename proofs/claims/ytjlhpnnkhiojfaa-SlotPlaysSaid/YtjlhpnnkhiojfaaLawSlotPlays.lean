/- SlotPlays: the row of the law: a row of deeds opened, walked, shut. Conditions: none but the row's own. -/
import Derived.Test.YtjlhpnnkhiojfaaRows
import Derived.Test.YtjlhpnnkhiojfaaSlotPlays
import Derived.WalkKit
import Derived.ProofKit
import Derived.OpenShut
import Derived.ShutString
import Derived.ChangeOld
import Derived.Below
import Derived.SizedLaws
import Derived.JoinedOf
import Derived.Carry
import Derived.Lib.SmallJoins
namespace Go.Proofs.Ytjlhpnnkhiojfaa.slotPlays
open Go.ChangeShapes Go.WideShapes Go.ChangeAt Go.RowKit Go.Joins Go.Deep
open Go.ChangeMaps (open_string shut_string)
open Go.Proofs.Ytjlhpnnkhiojfaa.HSlot (Dd DRow)
set_option linter.unusedVariables false
theorem own : ownKnob Try.prog.godebug = none := by kernel_rfl
theorem laidOut : laidOutB Try.prog = true := by kernel_rfl
theorem bytes4 : Try.prog.bytesOf 40 = 32 := by kernel_rfl
theorem cells4 : Try.prog.cellsOf 40 = 4 := by kernel_rfl
theorem cellsA : Try.prog.cellsOf 5 = 1 := by kernel_rfl
theorem cellsB : Try.prog.cellsOf 22 = 1 := by kernel_rfl
theorem cellsC : Try.prog.cellsOf 9 = 1 := by kernel_rfl
theorem cellsD : Try.prog.cellsOf 4 = 1 := by kernel_rfl
theorem weightsAll_mem {H : Type} {P : Program} {e : TypeId} : ∀ {l : List (DataW H)} {d : DataW H}, d ∈ l → ∀ n ∈ d.weights P e, n ∈ DataW.weightsAll P e l
  | d' :: r, d, hd, n, hn => by
    simp only [DataW.weightsAll, List.mem_append]
    rcases List.mem_cons.1 hd with rfl | h
    · exact Or.inl hn
    · exact Or.inr (weightsAll_mem h n hn)
instance : Inhabited Dd := ⟨⟨0, 0, ⟨#[]⟩, false⟩⟩
def datum {H : Type} (d : Dd) : DataW H := .agg [.lit (.int .u8 d.kind), .lit (.int .u16 d.k), .lit (.string d.s.data.toList), .lit (.bool d.raw)]
theorem open_deed {H : Type} {enc : TypeId × Value → H} {W : World} {base : Nat} {sp : Nat → Bool} {held : Bool} {fuel : Nat} {cs : List Value} {x : DataW H × List MemPlace} (h : DataW.trod enc Try.prog W base sp held fuel 40 cs = some x) :
    ∃ d : Dd, cs = [.int .u8 d.kind, .int .u16 d.k, .string d.s, .bool d.raw] ∧ x.1 = datum d ∧ (Lit.int .u8 d.kind).wf = true ∧ (Lit.int .u16 d.k).wf = true := by
  obtain ⟨y0, y1, y2, y3, n, rfl, hl, h0, h1, h2, h3⟩ := trod_struct4 Try.underlying40 h
  rw [cells4] at hl
  obtain ⟨c0, c1, c2, c3, rfl⟩ : ∃ c0 c1 c2 c3, cs = [c0, c1, c2, c3] := by
    match cs, hl with
    | [c0, c1, c2, c3], _ => exact ⟨_, _, _, _, rfl⟩
  simp only [cellsA, cellsB, cellsC, cellsD, List.drop, List.take] at h0 h1 h2 h3
  obtain ⟨a, e0, rfl, wa⟩ := DataW.trod_int Try.underlying5 h0
  obtain ⟨b, e1, rfl, wb⟩ := DataW.trod_int Try.underlying22 h1
  obtain ⟨s, e2, rfl, ws⟩ := DataW.trod_string Try.underlying9 h2
  obtain ⟨r, e3, rfl⟩ := DataW.trod_bool Try.underlying4 h3
  simp at e0 e1 e2 e3
  subst e0 e1 e2 e3
  exact ⟨⟨a, b, s, r⟩, rfl, rfl, wa, wb⟩
set_option maxRecDepth 100000 in
theorem lifted (os : Os) (started : os.Started) (H : Type) (enc : TypeId × Value → H) :
    ReturnsInHanded {} Try.checked os 5 .any (Rows.slotPlaysSpec.pre6 enc Try.prog Try.f5 Rows.slotPlaysRow.domain false) (Rows.slotPlaysSpec.post enc Try.prog Try.f5 false true false false) := by
  refine returnsInHanded_of_change_sized (C := Try.checked) own started (by kernel_rfl) Try.func5
    (ChangeSpec.witness6 (enc := enc) (C := Try.checked) false ⟨#[], #[.int .i64 0, .bool false, .int .u16 0, .slice none 0 0], []⟩ 8 (by kernel_rfl) (by kernel_rfl) (by kernel_rfl) (by kernel_rfl)) ?_
  intro W base args ds gs before hval0 hW hcnd hsz0 _
  have hsz : (DataW.weightsEach Try.prog (Try.f5.params.toList ++ Rows.slotPlaysSpec.plain.varTypes Try.prog) (ds ++ gs)).all (· ≤ reachBytes) = true := hsz0
  have hval : ∀ (j : Nat) t v, Try.f5.params[j]? = some t → args[j]? = some v → Value.okWide Try.prog W .any base t v := hval0
  have hW' := hW
  obtain ⟨p, q, hA0, hV, rfl, hfz, hnd⟩ := hW
  have hA : DataW.TrodAll enc Try.prog W 0 (fun _ => true) true Try.f5.params.toList args.toList ds p := hA0
  rw [Try.params5] at hA hval hsz
  obtain ⟨v0, vs0, d0, ds0, p0, q0, hargs, rfl, rfl, h0, r0⟩ := trodAll_cons hA
  obtain ⟨v1, vs1, d1, ds1, p1, q1, rfl, rfl, rfl, h1, r1⟩ := trodAll_cons r0
  obtain ⟨v2, vs2, d2, ds2, p2, q2, rfl, rfl, rfl, h2, r2⟩ := trodAll_cons r1
  obtain ⟨v3, vs3, d3, ds3, p3, q3, rfl, rfl, rfl, h3, r3⟩ := trodAll_cons r2
  obtain ⟨rfl, rfl, rfl⟩ := trodAll_nil r3
  obtain rfl : args = #[v0, v1, v2, v3] := by cases args; simp_all
  obtain ⟨rfl, rfl⟩ := trodVars_none hV
  obtain ⟨a0, rfl, rfl, rfl, w0⟩ := open_int Try.underlying3 (hval 0 3 v0 rfl rfl) h0
  obtain ⟨a1, rfl, rfl, rfl⟩ := open_bool Try.underlying4 (hval 1 4 v1 rfl rfl) h1
  obtain ⟨a2, rfl, rfl, rfl, w2⟩ := open_int Try.underlying22 (hval 2 22 v2 rfl rfl) h2
  obtain ⟨a3, len3, cap3, rfl⟩ := okWide_slice Try.underlying36 (hval 3 36 v3 rfl rfl)
  have k3 := h3
  have lt3 : ∀ x ∈ p3, x.block < W.heap.size := by obtain ⟨m, hm⟩ := k3; exact DataW.trod_lt m _ _ _ hm
  obtain ⟨D, hD, hok, hl⟩ : ∃ D : Nat → Dd, DRow W (.slice a3 len3 cap3) len3 D ∧ (∀ i, i < len3 → (D i).ok) ∧ len3 ≤ 9223372036854775807 := by
    obtain ⟨fuel, hf⟩ := h3
    rcases open_slice Try.underlying36 hf with ⟨hcs, _⟩ | ⟨x, l, c, m, n, DD, Pl, hcs, hb, hl, hm, hmm, hx, hcell⟩
    · simp [Value.cells] at hcs
      obtain ⟨rfl, rfl, rfl⟩ := hcs
      exact ⟨fun _ => default, .inl ⟨rfl, rfl⟩, fun i hi => by omega, by omega⟩
    · simp [Value.cells] at hcs
      obtain ⟨rfl, rfl, rfl⟩ := hcs
      have hlm : len3 ≤ m := by rw [hmm]; simpa using hl
      have each : ∀ i, i < len3 → ∃ d : Dd, W.cells? 0 (x.add (i * 4)) 4 = some [.int .u8 d.kind, .int .u16 d.k, .string d.s, .bool d.raw] ∧ DD i = datum d ∧ (Lit.int .u8 d.kind).wf = true ∧ (Lit.int .u16 d.k).wf = true := fun i hi => by
        obtain ⟨cs', e1, e2⟩ := hcell i (by omega)
        rw [cells4] at e1
        obtain ⟨d, rfl, e3, e4, e5⟩ := open_deed e2
        exact ⟨d, e1, e3, e4, e5⟩
      obtain ⟨D, hDD⟩ := choose_lt each
      obtain ⟨rfl, _⟩ : d3 = _ ∧ p3 = _ := by simpa using hx
      refine ⟨D, ?_, fun i hi => ?_, Nat.le_trans hl hm⟩
      · right
        refine ⟨x, cap3, rfl, fun hpos => ?_, fun i hi j u hu => ?_⟩
        · have := World.cells?_block (hDD 0 hpos).1 (by decide)
          simpa [Addr.add] using this
        · have hj : j < 4 := by
            rcases Nat.lt_or_ge j 4 with h | h
            · exact h
            · rw [List.getElem?_eq_none (by simpa using h)] at hu; cases hu
          rw [(World.cells?_some (hDD i hi).1).2.2 j hj]
          exact hu
      · obtain ⟨h1, h2, h3, h4⟩ := hDD i hi
        have b1 : 0 ≤ (D i).kind ∧ (D i).kind ≤ 255 := by simpa [Lit.wf, IntKind.min, IntKind.max, IntKind.signed, IntKind.bits] using h3
        have b2 : 0 ≤ (D i).k ∧ (D i).k ≤ 65535 := by simpa [Lit.wf, IntKind.min, IntKind.max, IntKind.signed, IntKind.bits] using h4
        refine ⟨by omega, by omega, ?_⟩
        have hmem : (datum (D i) : DataW H) ∈ (List.range len3).map DD := by
          rw [← h2]; exact List.mem_map.2 ⟨i, List.mem_range.2 hi, rfl⟩
        have := List.all_eq_true.1 hsz _ (DataW.weights_mem_each (j := 3) (t := 36) rfl rfl (D i).s.data.toList.length (by
          simp only [DataW.weights, Try.underlying36, List.mem_cons, List.mem_append]
          exact Or.inr (Or.inl (weightsAll_mem hmem _ (by simp [datum, DataW.weights, DataW.weightsEach, Try.underlying40])))))
        have h := of_decide_eq_true this
        rw [Array.length_toList] at h
        exact h
  have b0 : -9223372036854775808 ≤ a0 ∧ a0 ≤ 9223372036854775807 := by simpa [Lit.wf, IntKind.min, IntKind.max, IntKind.signed, IntKind.bits] using w0
  have b2 : 0 ≤ a2 ∧ a2 ≤ 65535 := by simpa [Lit.wf, IntKind.min, IntKind.max, IntKind.signed, IntKind.bits] using w2
  clear hA0 hval0 hsz0 hsz
  refine (HSlot.SlotPlays_any a0 a1 a2 _ len3 D b0 (by omega) hl W hD hok).mono fun e W' ⟨he, bel⟩ => ?_
  subst he
  exact ⟨_, rfl, _, _, _, [], _, [], hW', trodAll_mk1 (shut_bool Try.underlying4 _), (trodAll_cons_mk (shut_int Try.underlying3 w0) (trodAll_cons_mk (shut_bool Try.underlying4 _) (trodAll_cons_mk (shut_int Try.underlying22 w2) (trodAll_cons_mk (Below.trod laidOut (by kernel_rfl) (of_decide_eq_true (by kernel_rfl)) k3 bel lt3) trodAll_mk0)))), rfl, bel.frame _, fun h => by cases h⟩
theorem over : Rows.slotPlaysRow.holds Try.pinned (OpenSpec.ofChange Rows.slotPlaysSpec) :=
  OpenClaim.holds_of_wide 5 Try.f5 rfl rfl rfl rfl rfl rfl rfl ⟨rfl, rfl, rfl, rfl, rfl⟩ rfl rfl rfl rfl rfl (by kernel_rfl) Try.func5 (by kernel_rfl)
    (of_decide_eq_true (by kernel_rfl)) (by unfold Func.isWrapper; first | (rw [if_pos (by decide +kernel)]; kernel_rfl) | (rw [if_neg (by decide +kernel)]; exact ⟨rfl, rfl⟩))
    (fun os started H enc _ => lifted os started H enc)
theorem proved : Rows.SlotPlaysSaid := over
#print axioms proved
end Go.Proofs.Ytjlhpnnkhiojfaa.slotPlays
namespace Go.Proofs.Ytjlhpnnkhiojfaa
/-- The row, under a short name, for the claim. -/
theorem slotPlays_holds : Rows.SlotPlaysSaid := slotPlays.proved
end Go.Proofs.Ytjlhpnnkhiojfaa
