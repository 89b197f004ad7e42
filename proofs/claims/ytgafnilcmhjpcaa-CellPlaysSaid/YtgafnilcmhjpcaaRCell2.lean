/- The reference's cells: Move, Put, walked. Conditions: the numbers are of their kinds' ranges. -/
import Derived.Test.YtgafnilcmhjpcaaRCell
import Derived.Test.YtgafnilcmhjpcaaRefAll
import Derived.Deep.RegionHeld3
namespace Go.Proofs.Ytgafnilcmhjpcaa.HCell
set_option linter.unusedVariables false
open Go.RowKit Go.Proofs.Ytgafnilcmhjpcaa.HMem Go.Proofs.Ytgafnilcmhjpcaa.HHist Go.Proofs.Ytgafnilcmhjpcaa.HWide Go.Proofs.Ytgafnilcmhjpcaa.HApp
open Go.Proofs.Ytgafnilcmhjpcaa.Print (I64)

theorem flat_one (l : IL) : ∀ u ∈ flat l, u.oneCell' = true := by
  intro u hu
  induction l with
  | nil => cases hu
  | cons x r ih =>
    simp only [flat, List.mem_cons] at hu
    rcases hu with rfl | rfl | hu
    · rfl
    · rfl
    · exact ih hu
theorem moved {w u1 : World} {b : Nat} {l : IL} {r1 : Value} (b1 : Below w.heap.size w u1) (o1 : u1.ownsRow w.heap.size 111 2 r1 l.length (flat l)) :
    ∃ R, RHistAt (u1.alloc (.cells #[.int .i64 b, r1] 109)) u1.heap.size R b l ∧ ∀ g ∈ R, w.heap.size ≤ g := by
  obtain ⟨G, r, hg⟩ := Row.ofOwns o1
  have hlt : ∀ g ∈ G, g < u1.heap.size := fun g hm => (r.own.mem g hm).2
  refine ⟨u1.heap.size :: G, ⟨r1, G, rfl, fun hm => by have := hlt _ hm; omega, heap_alloc_new u1 _, r.same fun g hm => ((Below.refl u1.heap.size u1).alloc (Nat.le_refl _) _).block g (hlt g hm)⟩, fun g hm => ?_⟩
  rcases List.mem_cons.1 hm with rfl | hm
  · exact b1.size
  · exact hg g hm
def RFresh (w : World) (c : CM) (e : Ending) (w' : World) : Prop := ∃ q F, e = .returned (.pointer (some ⟨q, 0, none⟩)) ∧ RCellAt w' q F c ∧ (∀ g ∈ F, w.heap.size ≤ g) ∧ Below w.heap.size w w'
theorem bel_alloc' {w u : World} (h : Below w.heap.size w u) (o : Obj) : Below w.heap.size w (u.alloc o) := h.alloc h.size o
theorem own_nil' (w : World) (B : Nat) (e : TypeId) (size : Nat) : w.ownsRow B e size (.slice none 0 0) 0 [] := ⟨by simp, .inl ⟨rfl, rfl⟩⟩
theorem own_form {w : World} {B : Nat} {e : TypeId} {size n : Nat} {v : Value} {xs : List Value} (h : w.ownsRow B e size v n xs) : ∃ a m c, v = .slice a m c := by
  rcases h.2 with ⟨rfl, _⟩ | ⟨g, cap, cur, rfl, _⟩
  · exact ⟨_, _, _, rfl⟩
  · exact ⟨_, _, _, rfl⟩
set_option maxHeartbeats 8000000 in
set_option maxRecDepth 20000 in
theorem rcMove_any {w : World} {p : Nat} {G : List Nat} {c : CM} (k : RCellAt w p G c) (ho : COk c) (fr : Int) :
    Calls Try.prog 35 #[.pointer (some ⟨p, 0, none⟩), .int .i64 fr] w (RFresh w (moveC c fr)) := by
  obtain ⟨i0, hi0, hz0, hz1, hz2⟩ := infoRI2
  obtain ⟨h, R, rfl, hpR, kc, kh⟩ := k.ex
  obtain ⟨c0, c1, c2, c3, c4, c5⟩ := kc.cells
  have hlen := ho.h.len
  have p0 := kh.cells.1
  obtain ⟨_, v, R2, hx1, hx2, p1, hrow⟩ := kh.cells
  clear hx1 hx2
  obtain ⟨a, cp, rfl, hnc, hcm⟩ := hrow.form
  obtain ⟨n, hn⟩ : ∃ n, n = c.l.length := ⟨_, rfl⟩
  rw [← hn] at p1 hrow hnc hlen
  have HROW := Lib.hid (row_cells hrow)
  have HN := Lib.hid hn
  have KC := Lib.hid kc
  have HO := Lib.hid ho
  have LEN := Lib.hid (show (flat c.l).length = n * 2 by rw [flat_length, hn])
  have KS := Lib.hid (show ∀ u, Below w.heap.size w u → Below w.heap.size w u ∧ u.cell? ⟨p, 1, none⟩ = some (.pointer (some ⟨h, 0, none⟩)) ∧ u.cell? ⟨h, 0, none⟩ = some (.int .i64 c.b) ∧ u.cell? ⟨h, 1, none⟩ = some (.slice a n cp) from fun u hu =>
    ⟨hu, (hu.cell (World.block_lt_of_cell? _ _ c1)).trans c1, (hu.cell (World.block_lt_of_cell? _ _ p0)).trans p0, (hu.cell (World.block_lt_of_cell? _ _ p1)).trans p1⟩)
  clear k kc kh hpR ho hrow hn c0 c2 c3 c4 c5 c1 p0 p1
  go_enter Try.func35, Try.ntmps35
  go_wp2_with fail
  go_region_held3 (fun u => Below w.heap.size w u ∧ u.cell? ⟨p, 1, none⟩ = some (.pointer (some ⟨h, 0, none⟩)) ∧ u.cell? ⟨h, 0, none⟩ = some (.int .i64 c.b) ∧ u.cell? ⟨h, 1, none⟩ = some (.slice a n cp))
    (first
      | exact KS.out _ (Below.refl _ _).drew
      | exact KS.out _ (Below.trans (And.left (by assumption)) hb1)
      | exact KS.out _ (bel_alloc' (Below.trans (And.left (by assumption)) hb1) _)
      | exact KS.out _ (bel_alloc' (And.left (by assumption)) _)
      | fail)
    ((first
      | (apply step_any (s := .const (.slice none 0 0)) (x := .tmp 19) (t := 107) (e := 111) (base := w.heap.size) (i := i0) (z := .agg #[.int .i64 0, .int .u64 0]) (size := 2) (bytes := 16) (v := .slice none 0 0) (n := 0) (xs := []) (ax := a) (m := n) (c := cp) (news := flat c.l); (case hgd => rfl); (case ho => rfl); (case hbase => exact Below.size (And.left (by assumption))); (case ht => exact Try.underlying107); (case hi => exact hi0); (case hz => exact hz0); (case hsize => exact hz1); (case hby => exact hz2); (case hzs => rfl); (case hsz => decide); (case hs => rfl); (case hx => rfl); (case hown => exact own_nil' _ _ _ _); (case hnone => exact HROW.out.1); (case hl => exact LEN.out); (case hnews => exact HROW.out.2 _ (And.left (by assumption))); (case h1 => exact flat_one _); (case h63 => unfold maxLen; omega); (case hbytes => omega); intro r1 u1 own1 hb1; obtain ⟨a1, n1, cp1, rfl⟩ := own_form own1)
      | fail))
  all_goals (
    have bz : Below w.heap.size w u1 := by
      first
        | exact And.left (by assumption)
        | exact Below.trans (And.left (by assumption)) hb1
        | exact Below.trans (Below.refl _ _).drew hb1
        | exact hb1
    have o1 : u1.ownsRow w.heap.size 111 2 (.slice a1 n1 cp1) c.l.length (flat c.l) := by rw [← HN.out]; simpa using own1
    obtain ⟨RR, hR, gR⟩ := moved (b := c.b) bz o1
    obtain ⟨q, hq⟩ : ∃ q, q = u1.heap.size := ⟨_, rfl⟩
    obtain ⟨W2, hW2⟩ : ∃ W, W = u1.alloc (.cells #[.int .i64 c.b, .slice a1 n1 cp1] 109) := ⟨_, rfl⟩
    have b2 : Below w.heap.size w W2 := by rw [hW2]; exact bz.alloc bz.size _
    rw [← hq, ← hW2] at hR
    rw [← hq, ← hW2]
    have B2 := Lib.hid b2
    have HR := Lib.hid hR
    have GR := Lib.hid gR
    have K2 := Lib.hid (KC.out.mono b2)
    obtain ⟨c0, c1, c2, c3, c4, c5⟩ := K2.out.cells
    clear bz o1 hR gR hq hW2 b2 c0 c1)
  all_goals (
    go_wp2_with fail
    refine QTail.wp_region_quiet_tail (C := fun w' => Below W2.heap.size W2 w') 15 (by kernel_rfl) (by kernel_rfl) ((Below.refl _ _).drew) ?_
    simp only [List.take_succ_cons, List.take_zero]
    try dsimp only [List.append]
    repeat (
      with_reducible refine wpQuiet_step (fun K hK => ?_)
      go_simp
      first
        | (with_reducible refine hK _ ?_; clear hK K)
        | (refine hK _ ?_; clear hK K)
        | (apply Exists.intro
           refine ⟨fun v hv => ?_, hK _ ?_⟩
           (first
             | with_reducible rfl
             | (have d0 := (hv.cell (World.block_lt_of_cell? _ _ c2)).trans c2
                have d1 := (hv.cell (World.block_lt_of_cell? _ _ c3)).trans c3
                have d2 := (hv.cell (World.block_lt_of_cell? _ _ c4)).trans c4
                have d3 := (hv.cell (World.block_lt_of_cell? _ _ c5)).trans c5
                go_simp
                with_reducible rfl))
           clear hK K))
    refine wpQuiet_nil ?_
    intro wf hk
    simp only [List.drop_succ_cons, List.drop_zero]
    have RES := Lib.hid (show RFresh w (moveC c fr) (.returned (.pointer (some ⟨wf.heap.size, 0, none⟩))) (wf.alloc (.cells #[.int .i64 fr, .pointer (some ⟨q, 0, none⟩), .int .i64 c.s.1, .int .u64 c.s.2, .int .i64 c.lo, .int .i64 c.hi] 73)) by
      have hqW := fun g (hg : g ∈ RR) => (HR.out.own.mem g hg).2
      have hba : Below W2.heap.size W2 (wf.alloc (.cells #[.int .i64 fr, .pointer (some ⟨q, 0, none⟩), .int .i64 c.s.1, .int .u64 c.s.2, .int .i64 c.lo, .int .i64 c.hi] 73)) := hk.alloc hk.size _
      refine ⟨wf.heap.size, wf.heap.size :: RR, rfl, ⟨q, RR, rfl, fun hm => ?_, heap_alloc_new wf _, HR.out.mono hba⟩, fun g hg => ?_, B2.out.trans (hba.mono B2.out.size)⟩
      · have h1 := hqW _ hm
        have h2 := hk.size
        omega
      · rcases List.mem_cons.1 hg with rfl | hg
        · exact Nat.le_trans B2.out.size hk.size
        · exact GR.out g hg)
    clear hk c2 c3 c4 c5
    go_wp2
    go_ret
    exact RES.out)
set_option maxHeartbeats 4000000 in
set_option maxRecDepth 20000 in
theorem rcPut_any {w : World} {p : Nat} {G : List Nat} {c : CM} (k : RCellAt w p G c) (ho : COk c) :
    Calls Try.prog 13 #[.pointer (some ⟨p, 0, none⟩)] w fun e w' => e = .returned (.string (strOfNums (encC c))) ∧ Below w.heap.size w w' := by
  obtain ⟨h, R, rfl, hpR, kc, kh⟩ := k.ex
  obtain ⟨c0, c1, c2, c3, c4, c5⟩ := kc.cells
  have e8 : ∀ x : Int, IntKind.u64.wrap x = ((u64of x : Nat) : Int) := fun x => by rw [u64w]; unfold u64of B64; omega
  obtain ⟨A, hA⟩ : ∃ A, A = strOfNums (be (u64of c.fr) 8) := ⟨_, rfl⟩
  obtain ⟨B, hB⟩ : ∃ B, B = strOfNums (putN c.s.1 c.s.2) := ⟨_, rfl⟩
  obtain ⟨C, hC⟩ : ∃ C, C = strOfNums (be (u64of c.lo) 8) := ⟨_, rfl⟩
  obtain ⟨D, hD⟩ : ∃ D, D = strOfNums (be (u64of c.hi) 8) := ⟨_, rfl⟩
  obtain ⟨H, hH⟩ : ∃ H, H = strOfNums (encL c.b c.l) := ⟨_, rfl⟩
  have KB8 : ∀ (x : Int) (v : World), Calls Try.prog 44 #[.int .u64 ((u64of x : Nat) : Int), .int .i64 8] v fun e w' => e = .returned (.string (strOfNums (be (u64of x) 8))) ∧ Below v.heap.size v w' := fun x v => rBytes_any v (u64of x) 8 (u64of_lt x) (by decide) (by decide)
  obtain ⟨n1, hn1⟩ : ∃ n, n = u64of c.fr := ⟨_, rfl⟩
  obtain ⟨n2, hn2⟩ : ∃ n, n = u64of c.lo := ⟨_, rfl⟩
  obtain ⟨n3, hn3⟩ : ∃ n, n = u64of c.hi := ⟨_, rfl⟩
  have x1 : IntKind.u64.wrap c.fr = (n1 : Int) := by rw [e8, hn1]
  have x2 : IntKind.u64.wrap c.lo = (n2 : Int) := by rw [e8, hn2]
  have x3 : IntKind.u64.wrap c.hi = (n3 : Int) := by rw [e8, hn3]
  have KA := Lib.hid (show ∀ v, Below w.heap.size w v → Calls Try.prog 44 #[.int .u64 n1, .int .i64 8] v fun e w' => e = .returned (.string A) ∧ Below v.heap.size v w' from fun v hv => by rw [hA, hn1]; exact KB8 c.fr v)
  have KB := Lib.hid (show ∀ v, Below w.heap.size w v → Calls Try.prog 45 #[.agg #[.int .i64 c.s.1, .int .u64 c.s.2]] v fun e w' => e = .returned (.string B) ∧ Below v.heap.size v w' from fun v hv => by
    have hc := ho.rng
    unfold Rng at hc
    rw [hB]; exact rSumPut_any c.s.1 c.s.2 v hc.2.2)
  have KC := Lib.hid (show ∀ v, Below w.heap.size w v → Calls Try.prog 44 #[.int .u64 n2, .int .i64 8] v fun e w' => e = .returned (.string C) ∧ Below v.heap.size v w' from fun v hv => by rw [hC, hn2]; exact KB8 c.lo v)
  have KD := Lib.hid (show ∀ v, Below w.heap.size w v → Calls Try.prog 44 #[.int .u64 n3, .int .i64 8] v fun e w' => e = .returned (.string D) ∧ Below v.heap.size v w' from fun v hv => by rw [hD, hn3]; exact KB8 c.hi v)
  have KH := Lib.hid (show ∀ v, Below w.heap.size w v → Calls Try.prog 37 #[.pointer (some ⟨h, 0, none⟩)] v fun e w' => e = .returned (.string H) ∧ Below v.heap.size v w' from fun v hv => by rw [hH]; exact HHist.rPut_any (kh.mono hv) ho.h)
  have sA : A.size = 8 := by rw [hA, strOfNums_size, be_length]
  have sB : B.size = 16 := by rw [hB, strOfNums_size]; rfl
  have sC : C.size = 8 := by rw [hC, strOfNums_size, be_length]
  have sD : D.size = 8 := by rw [hD, strOfNums_size, be_length]
  have sH : H.size ≤ 30000 := by
    rw [hH, strOfNums_size, encL_length]
    have := ho.h.len
    omega
  have z1 : ¬ 9223372036854775807 < A.size + B.size := by omega
  have z2 : ¬ 9223372036854775807 < A.size + B.size + C.size := by omega
  have z3 : ¬ 9223372036854775807 < A.size + B.size + C.size + D.size := by omega
  have z4 : ¬ 9223372036854775807 < A.size + B.size + C.size + D.size + H.size := by omega
  have E := Lib.hid (show A ++ B ++ C ++ D ++ H = strOfNums (encC c) by
    unfold encC
    rw [hA, hB, hC, hD, hH, str_app, str_app, str_app, str_app])
  clear hA hB hC hD hH sA sB sC sD sH k kc kh hpR ho e8 KB8 hn1 hn2 hn3
  go_enter Try.func13, Try.ntmps13
  go_wp2_with fail
  refine wp_region_quiet (C := fun w' => Below w.heap.size w w') (by kernel_rfl) (by kernel_rfl) ((Below.refl _ _).drew) ?_
  try dsimp only [List.append]
  repeat (
    with_reducible refine wpQuiet_step (fun K hK => ?_)
    go_simp
    first
      | (with_reducible refine hK _ ?_; clear hK K)
      | (refine hK _ ?_; clear hK K)
      | (apply Exists.intro
         refine ⟨fun v hv => ?_, hK _ ?_⟩
         (first
           | with_reducible rfl
           | (with_reducible show Calls _ _ _ _ _
              first
                | with_reducible refine Calls.mono (KA.out _ hv) ?_
                | with_reducible refine Calls.mono (KB.out _ hv) ?_
                | with_reducible refine Calls.mono (KC.out _ hv) ?_
                | with_reducible refine Calls.mono (KD.out _ hv) ?_
                | with_reducible refine Calls.mono (KH.out _ hv) ?_
              rintro e w' ⟨rfl, hb⟩
              exact ⟨rfl, hv.trans (hb.mono hv.size)⟩)
           | (have d0 := (hv.cell (World.block_lt_of_cell? _ _ c0)).trans c0
              have d1 := (hv.cell (World.block_lt_of_cell? _ _ c1)).trans c1
              have d2 := (hv.cell (World.block_lt_of_cell? _ _ c2)).trans c2
              have d3 := (hv.cell (World.block_lt_of_cell? _ _ c3)).trans c3
              have d4 := (hv.cell (World.block_lt_of_cell? _ _ c4)).trans c4
              have d5 := (hv.cell (World.block_lt_of_cell? _ _ c5)).trans c5
              go_simp
              with_reducible rfl))
         clear hK K))
  refine wpQuiet_nil ?_
  intro wf hk
  clear c0 c1 c2 c3 c4 c5 z1 z2 z3 z4
  go_wp2
  go_ret
  exact ⟨by rw [← E.out]; rfl, hk⟩
end Go.Proofs.Ytgafnilcmhjpcaa.HCell
