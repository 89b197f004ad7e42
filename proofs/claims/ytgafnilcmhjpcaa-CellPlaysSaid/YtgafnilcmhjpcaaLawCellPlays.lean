/- CellPlays: the row of the law: a row of deeds opened, walked, shut. Conditions: none but the row's own. -/
import Derived.Test.YtgafnilcmhjpcaaRows
import Derived.Test.YtgafnilcmhjpcaaPlaysAll
import Derived.WalkKit
import Derived.ProofKit
import Derived.OpenShut
import Derived.ShutString
import Derived.ChangeOld
import Derived.Below
import Derived.SizedLaws
import Derived.JoinedOf
import Derived.Carry
import Derived.Lib.SmallJoins
namespace Go.Proofs.Ytgafnilcmhjpcaa.cellPlays
open Go.ChangeShapes Go.WideShapes Go.ChangeAt Go.RowKit Go.Joins Go.Deep
open Go.Proofs.Ytgafnilcmhjpcaa.HHist (Hd HRow NRow)
set_option linter.unusedVariables false
theorem own : ownKnob Try.prog.godebug = none := by kernel_rfl
theorem laidOut : laidOutB Try.prog = true := by kernel_rfl
theorem cells4 : Try.prog.cellsOf 66 = 4 := by kernel_rfl
theorem cellsA : Try.prog.cellsOf 5 = 1 := by kernel_rfl
theorem cellsB : Try.prog.cellsOf 2 = 1 := by kernel_rfl
theorem cellsC : Try.prog.cellsOf 22 = 1 := by kernel_rfl
theorem cellsD : Try.prog.cellsOf 3 = 1 := by kernel_rfl
instance : Inhabited Hd := ⟨⟨0, 0, none, 0, [], 0⟩⟩
/-- What is known of a deed. -/
def Ok (W : World) (d : Hd) : Prop := (Lit.int .u8 d.kind).wf = true ∧ (Lit.int .i64 d.n).wf = true ∧ (Lit.int .i64 d.bits).wf = true ∧ NRow .i64 W (.slice d.la d.zs.length d.lc) d.zs ∧ ∀ x ∈ d.zs, (Lit.int .i64 x).wf = true
set_option maxRecDepth 100000 in
theorem open_deed {H : Type} {enc : TypeId × Value → H} {W : World} {held : Bool} {fuel : Nat} {cs : List Value} {x : DataW H × List MemPlace} (h : DataW.trod enc Try.prog W 0 (fun _ => true) held fuel 66 cs = some x) :
    ∃ d : Hd, cs = d.cs ∧ Ok W d := by
  obtain ⟨y0, y1, y2, y3, n, rfl, hl, h0, h1, h2, h3⟩ := trod_struct4 Try.underlying66 h
  rw [cells4] at hl
  obtain ⟨c0, c1, c2, c3, rfl⟩ : ∃ c0 c1 c2 c3, cs = [c0, c1, c2, c3] := by
    match cs, hl with
    | [c0, c1, c2, c3], _ => exact ⟨_, _, _, _, rfl⟩
  simp only [cellsA, cellsB, cellsC, cellsD, List.drop, List.take] at h0 h1 h2 h3
  obtain ⟨a, e0, rfl, wa⟩ := DataW.trod_int Try.underlying5 h0
  obtain ⟨b, e1, rfl, wb⟩ := DataW.trod_int Try.underlying2 h1
  obtain ⟨c, e3, rfl, wc⟩ := DataW.trod_int Try.underlying3 h3
  simp at e0 e1 e3
  subst e0 e1 e3
  rcases open_ints Try.underlying22 Try.underlying2 (by kernel_rfl) h2 with ⟨hcs, _⟩ | ⟨x, l, cp, zs, hcs, _, hl, hm, hz, _, hcell, hwz⟩
  · simp [Value.cells] at hcs
    subst hcs
    exact ⟨⟨a, b, none, 0, [], c⟩, rfl, wa, wb, wc, .inl ⟨rfl, rfl⟩, fun x h => by cases h⟩
  · simp [Value.cells] at hcs
    subst hcs
    have hz' : zs.length = cp := by simpa using hz
    have hll : (zs.take l).length = l := by rw [List.length_take]; omega
    refine ⟨⟨a, b, some x, cp, zs.take l, c⟩, by unfold Hd.cs; rw [hll], wa, wb, wc, ?_, fun y hy => hwz y (List.mem_of_mem_take hy)⟩
    refine .inr ⟨x, cp, rfl, by rw [hll]; omega, hm, fun i y hi => ?_⟩
    change (zs.take l)[i]? = some y at hi
    rw [List.getElem?_take] at hi
    split at hi
    · have h := hcell i (List.getElem?_eq_some_iff.1 hi).1
      rw [h, List.getD_eq_getElem?_getD, hi]
      rfl
    · cases hi
set_option maxRecDepth 100000 in
theorem lifted (os : Os) (started : os.Started) (H : Type) (enc : TypeId × Value → H) :
    ReturnsInHanded {} Try.checked os 7 .any (Rows.cellPlaysSpec.pre6 enc Try.prog Try.f7 Rows.cellPlaysRow.domain false) (Rows.cellPlaysSpec.post enc Try.prog Try.f7 false true false false) := by
  refine returnsInHanded_of_change_sized (C := Try.checked) own started (by kernel_rfl) Try.func7
    (ChangeSpec.witness6 (enc := enc) (C := Try.checked) false ⟨#[], #[.int .i64 0, .int .i64 0, .bool false, .slice none 0 0, .int .i64 0], []⟩ 8 (by kernel_rfl) (by kernel_rfl) (by kernel_rfl) (by kernel_rfl)) ?_
  intro W base args ds gs before hval0 hW hcnd hsz0 _
  have hval : ∀ (j : Nat) t v, Try.f7.params[j]? = some t → args[j]? = some v → Value.okWide Try.prog W .any base t v := hval0
  have hW' := hW
  obtain ⟨p, q, hA0, hV, rfl, hfz, hnd⟩ := hW
  have hA : DataW.TrodAll enc Try.prog W 0 (fun _ => true) true Try.f7.params.toList args.toList ds p := hA0
  rw [Try.params7] at hA hval
  obtain ⟨v0, vs0, d0, ds0, p0, q0, hargs, rfl, rfl, h0, r0⟩ := trodAll_cons hA
  obtain ⟨v1, vs1, d1, ds1, p1, q1, rfl, rfl, rfl, h1, r1⟩ := trodAll_cons r0
  obtain ⟨v2, vs2, d2, ds2, p2, q2, rfl, rfl, rfl, h2, r2⟩ := trodAll_cons r1
  obtain ⟨v3, vs3, d3, ds3, p3, q3, rfl, rfl, rfl, h3, r3⟩ := trodAll_cons r2
  obtain ⟨v4, vs4, d4, ds4, p4, q4, rfl, rfl, rfl, h4, r4⟩ := trodAll_cons r3
  obtain ⟨rfl, rfl, rfl⟩ := trodAll_nil r4
  obtain rfl : args = #[v0, v1, v2, v3, v4] := by cases args; simp_all
  obtain ⟨rfl, rfl⟩ := trodVars_none hV
  obtain ⟨a0, rfl, rfl, rfl, w0⟩ := open_int Try.underlying2 (hval 0 2 v0 rfl rfl) h0
  obtain ⟨a1, rfl, rfl, rfl, w1⟩ := open_int Try.underlying3 (hval 1 3 v1 rfl rfl) h1
  obtain ⟨a2, rfl, rfl, rfl⟩ := open_bool Try.underlying4 (hval 2 4 v2 rfl rfl) h2
  obtain ⟨a4, rfl, rfl, rfl, w4⟩ := open_int Try.underlying2 (hval 4 2 v4 rfl rfl) h4
  obtain ⟨a3, len3, cap3, rfl⟩ := okWide_slice Try.underlying61 (hval 3 61 v3 rfl rfl)
  have k3 := h3
  have lt3 : ∀ x ∈ p3, x.block < W.heap.size := by obtain ⟨m, hm⟩ := k3; exact DataW.trod_lt m _ _ _ hm
  obtain ⟨D, hD, hl⟩ : ∃ D : Nat → Hd, HRow W (.slice a3 len3 cap3) len3 D ∧ len3 ≤ 9223372036854775807 := by
    obtain ⟨fuel, hf⟩ := h3
    rcases open_slice Try.underlying61 hf with ⟨hcs, _⟩ | ⟨x, l, c, m, n, DD, Pl, hcs, hb, hl, hm, hmm, hx, hcell⟩
    · simp [Value.cells] at hcs
      obtain ⟨rfl, rfl, rfl⟩ := hcs
      exact ⟨fun _ => default, ⟨⟨_, _, rfl, .inl rfl⟩, fun i hi => by omega⟩, by omega⟩
    · simp [Value.cells] at hcs
      obtain ⟨rfl, rfl, rfl⟩ := hcs
      have hlm : len3 ≤ m := by rw [hmm]; simpa using hl
      have each : ∀ i, i < len3 → ∃ d : Hd, W.cells? 0 (x.add (i * 4)) 4 = some d.cs ∧ Ok W d := fun i hi => by
        obtain ⟨cs', e1, e2⟩ := hcell i (by omega)
        rw [cells4] at e1
        obtain ⟨d, rfl, e3⟩ := open_deed e2
        exact ⟨d, e1, e3⟩
      obtain ⟨D, hDD⟩ := choose_lt each
      refine ⟨D, ⟨⟨_, _, rfl, .inr ⟨x, rfl, fun i hi j u hu => ?_⟩⟩, fun i hi => ?_⟩, Nat.le_trans hl hm⟩
      · have hj : j < 4 := by
          rcases Nat.lt_or_ge j 4 with h | h
          · exact h
          · rw [List.getElem?_eq_none (by simpa [Hd.cs] using h)] at hu; cases hu
        rw [(World.cells?_some (hDD i hi).1).2.2 j hj]
        exact hu
      · obtain ⟨_, h1, h2, h3, h4, h5⟩ := hDD i hi
        have b1 : 0 ≤ (D i).kind ∧ (D i).kind ≤ 255 := by simpa [Lit.wf, IntKind.min, IntKind.max, IntKind.signed, IntKind.bits] using h1
        exact ⟨⟨b1.1, by omega⟩, HHist.i64_wf h2, HHist.i64_wf h3, h4, fun x hx => HHist.i64_wf (h5 x hx)⟩
  clear hA0 hval0 hsz0
  refine (HCell.CellPlays_any a0 a1 a2 _ len3 D a4 (HHist.i64_wf w0) (HHist.i64_wf w1) (HHist.i64_wf w4) W hD hl).mono fun e W' ⟨he, bel⟩ => ?_
  subst he
  exact ⟨_, rfl, _, _, _, [], _, [], hW', trodAll_mk1 (shut_bool Try.underlying4 _), (trodAll_cons_mk (shut_int Try.underlying2 w0) (trodAll_cons_mk (shut_int Try.underlying3 w1) (trodAll_cons_mk (shut_bool Try.underlying4 _) (trodAll_cons_mk (Below.trod laidOut (by kernel_rfl) (of_decide_eq_true (by kernel_rfl)) k3 bel lt3) (trodAll_cons_mk (shut_int Try.underlying2 w4) trodAll_mk0))))), rfl, bel.frame _, fun h => by cases h⟩
theorem over : Rows.cellPlaysRow.holds Try.pinned (OpenSpec.ofChange Rows.cellPlaysSpec) :=
  OpenClaim.holds_of_wide 7 Try.f7 rfl rfl rfl rfl rfl rfl rfl ⟨rfl, rfl, rfl, rfl, rfl⟩ rfl rfl rfl rfl rfl (by kernel_rfl) Try.func7 (by kernel_rfl)
    (of_decide_eq_true (by kernel_rfl)) (by unfold Func.isWrapper; first | (rw [if_pos (by decide +kernel)]; kernel_rfl) | (rw [if_neg (by decide +kernel)]; exact ⟨rfl, rfl⟩))
    (fun os started H enc _ => lifted os started H enc)
theorem proved : Rows.CellPlaysSaid := over
#print axioms proved
end Go.Proofs.Ytgafnilcmhjpcaa.cellPlays
namespace Go.Proofs.Ytgafnilcmhjpcaa
/-- The row, under a short name, for the claim. -/
theorem cellPlays_holds : Rows.CellPlaysSaid := cellPlays.proved
end Go.Proofs.Ytgafnilcmhjpcaa
