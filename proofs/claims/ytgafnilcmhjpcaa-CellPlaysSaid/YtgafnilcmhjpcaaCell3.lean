/- Cells: Add, walked: what hist throws is caught. Conditions: the numbers are of their kinds' ranges. -/
import Derived.Test.YtgafnilcmhjpcaaCell2
namespace Go.Proofs.Ytgafnilcmhjpcaa.HCell
set_option linter.unusedVariables false
open Go.RowKit Go.Proofs.Ytgafnilcmhjpcaa.HMem Go.Proofs.Ytgafnilcmhjpcaa.HHist Go.Proofs.Ytgafnilcmhjpcaa.HWide
open Go.Proofs.Ytgafnilcmhjpcaa.Print (I64)

/-- A number is taken. -/
def addC (c : CM) (n : Int) : CM × Int := if 1099511627776 ≤ total c.l then (c, 7) else ({ takeC c (total c.l) 1 (nrm n) n n with l := (addL c.b c.l n).1 }, 0)
def CRes (w : World) (p : Nat) (G : List Nat) (c : CM) (v : Value) (e : Ending) (w' : World) : Prop := e = .returned v ∧ ∃ G', CellAt w' p G' c ∧ Turn G G' w w'
theorem Rng.nrm (v : Int) : Rng (nrm v).1 (nrm v).2 := nrm_rng v
theorem I64.min {a b : Int} (h : I64 a) (k : I64 b) : I64 (min a b) := by unfold Print.I64 at *; omega
theorem I64.max {a b : Int} (h : I64 a) (k : I64 b) : I64 (max a b) := by unfold Print.I64 at *; omega
theorem COk.take {c : CM} (h : COk c) (old many : Nat) (s : Int × Int) (lo hi : Int) (hlo : I64 lo) (hhi : I64 hi) : COk (takeC c old many s lo hi) := by
  unfold takeC
  split
  · exact h
  · refine ⟨h.h, nrm_rng _, h.fr, ?_, ?_⟩
    · show I64 (loT c old lo)
      unfold loT
      split
      · exact I64.min hlo hlo
      · exact I64.min h.lo hlo
    · show I64 (hiT c old hi)
      unfold hiT
      split
      · exact I64.max hhi hhi
      · exact I64.max h.hi hhi
theorem COk.hist {c : CM} (h : COk c) {l : IL} (k : HOk c.b l) : COk { c with l := l } := ⟨k, h.rng, h.fr, h.lo, h.hi⟩
theorem takeC_b (c : CM) (old many : Nat) (s : Int × Int) (lo hi : Int) : (takeC c old many s lo hi).b = c.b ∧ (takeC c old many s lo hi).l = c.l ∧ (takeC c old many s lo hi).fr = c.fr := by
  unfold takeC; split <;> exact ⟨rfl, rfl, rfl⟩
theorem COk.add {c : CM} (h : COk c) {n : Int} (hn : I64 n) : COk (addC c n).1 := by
  unfold addC
  split
  · exact h
  · refine COk.hist (h.take _ _ _ _ _ hn hn) ?_
    rw [(takeC_b _ _ _ _ _ _).1]
    exact h.h.add hn
theorem turn_all {w W w1 w2 w3 : World} {p E : Nat} {R R' : List Nat} (b0 : Below w.heap.size w W) (t1 : Turn R R' W w1) (b2 : Below w1.heap.size w1 w2) (c3 : Chg (· = p) w2 w3) (hE : w.heap.size ≤ E) (v : Value) :
    Turn (p :: R) (p :: R') w (w3.setCell ⟨E, 0, none⟩ v) := by
  have c4 := Chg.set w3 E 0 v
  refine ⟨⟨?_, ?_, ?_, ?_, fun k hk hf => ?_⟩, fun g hg => ?_⟩
  · exact c4.os.trans (c3.os.trans (b2.os.trans (t1.chg.os.trans b0.os)))
  · exact c4.tape.trans (c3.tape.trans (b2.tape.trans (t1.chg.tape.trans b0.tape)))
  · exact c4.output.trans (c3.output.trans (b2.output.trans (t1.chg.output.trans b0.output)))
  · exact Nat.le_trans b0.size (Nat.le_trans t1.size (Nat.le_trans b2.size (Nat.le_trans c3.size c4.size)))
  · simp only [List.mem_cons, not_or] at hf
    have k1 := Nat.lt_of_lt_of_le hk b0.size
    have k2 := Nat.lt_of_lt_of_le k1 t1.size
    have k3 := Nat.lt_of_lt_of_le k2 b2.size
    have k4 := Nat.lt_of_lt_of_le k3 c3.size
    rw [c4.block k k4 (by omega), c3.block k k3 hf.1, b2.block k k2, t1.chg.block k k1 hf.2, b0.block k hk]
  · rcases List.mem_cons.1 hg with rfl | hg
    · exact .inl (by simp)
    · rcases t1.foot g hg with h | h
      · exact .inl (by simp [h])
      · exact .inr (Nat.le_trans b0.size h)
set_option maxHeartbeats 4000000 in
set_option maxRecDepth 20000 in
theorem Add_any {w : World} {p : Nat} {G : List Nat} {c : CM} (k : CellAt w p G c) (ho : COk c) (n : Int) (hn : I64 n) :
    Calls Try.prog 24 #[.pointer (some ⟨p, 0, none⟩), .int .i64 n] w (CRes w p G (addC c n).1 (.int .i64 (addC c n).2)) := by
  obtain ⟨h, R, rfl, hpR, kc, kh⟩ := k.ex
  obtain ⟨E, hE⟩ : ∃ E, E = w.heap.size := ⟨_, rfl⟩
  obtain ⟨W, hW⟩ : ∃ W, W = w.alloc (.cells #[.int .i64 0] 30) := ⟨_, rfl⟩
  have b0 : Below w.heap.size w W := by rw [hW]; exact (Below.refl _ _).alloc (Nat.le_refl _) _
  have hEW : W.heap[E]? = some (.cells #[.int .i64 0] 30 (0, 0)) := by rw [hW, hE]; exact heap_alloc_new w _
  have hpE : p < E := by rw [hE]; exact kc.lt
  have hER : E ∉ R := fun hm => by have := (kh.own.mem E hm).2; omega
  have kcW := kc.mono b0
  have khW := kh.mono b0
  obtain ⟨c0, _⟩ := kcW.cells
  have B0 := Lib.hid b0
  have HEW := Lib.hid hEW
  have KC := Lib.hid kcW
  have KH := Lib.hid khW
  have HW := Lib.hid hW
  have HE := Lib.hid hE
  have HER := Lib.hid hER
  have HPR := Lib.hid hpR
  have HO := Lib.hid ho
  have HPE := Lib.hid hpE
  rw [hW] at c0
  clear b0 hEW hpE hER kcW khW k kc kh hpR hW hE ho
  go_enter_defers Try.func24, Try.ntmps24
  go_wp2_with fail
  rw [← HW.out, ← HE.out]
  rw [← HW.out] at c0
  refine (Count_any KH.out).mono ?_
  rintro e w1 ⟨rfl, rfl⟩
  go_wp2_with fail
  refine (HHist.Add_any KH.out HO.out.h n hn).mono ?_
  rintro e w1 ⟨rfl, R', h1, t1⟩
  have H1 := Lib.hid h1
  have T1 := Lib.hid t1
  have hE1 : w1.heap[E]? = some (.cells #[.int .i64 0] 30 (0, 0)) := by rw [t1.chg.block E (heap_lt HEW.out) HER.out]; exact HEW.out
  have K1 := Lib.hid (show Cb w1 p h c by unfold Cb; rw [t1.chg.block p KC.out.lt HPR.out]; exact KC.out)
  have HE1 := Lib.hid hE1
  have HPR' := Lib.hid (show p ∉ R' from fun hm => by
    rcases t1.foot p hm with h | h
    · exact HPR.out h
    · have := KC.out.lt; omega)
  clear h1 t1 hE1 c0
  by_cases hf : 1099511627776 ≤ total c.l
  · have EA := Lib.hid (show addL c.b c.l n = (c.l, 7) from if_pos hf)
    have EC := Lib.hid (show addC c n = (c, 7) from if_pos hf)
    have EAL := Lib.hid (show (addL c.b c.l n).1 = c.l by rw [EA.out])
    rw [EA.out]
    clear hf
    go_wp2_with fail
    refine (must_throws 7 (by decide) w1).mono ?_
    rintro e w2 ⟨rfl, rfl⟩
    go_wp2_with fail
    have hE2 := HE1.out
    refine leaves_cons (f := 53) (args := #[.pointer (some ⟨E, 0, none⟩)]) (by simp) (by simp [go_sem]) ?_
    refine (caught_errno ⟨E, 0, none⟩ 7 (.int .i64 0) [] _ (by simp [World.cell?, hE2]) (by simp [World.frozen?, hE2])).mono ?_
    rintro e u' w3 ⟨rfl, rfl, rfl⟩
    have e0 : (w2.setCell ⟨E, 0, none⟩ (.int .i64 7)).cell? ⟨E, 0, none⟩ = some (.int .i64 7) := World.cell?_setCell_same _ _ _ (show w2.cell? ⟨E, 0, none⟩ = some (.int .i64 0) by simp [World.cell?, hE2])
    have RES := Lib.hid (show CRes w p (p :: R) (addC c n).1 (.int .i64 (addC c n).2) (.returned (.int .i64 7)) (w2.setCell ⟨E, 0, none⟩ (.int .i64 7)) by
      rw [EC.out]
      have hne : ∀ k, k ≠ E → (w2.setCell ⟨E, 0, none⟩ (.int .i64 7)).heap[k]? = w2.heap[k]? := fun k hk => Below.heap_setCell _ _ _ _ hk
      have e1 := H1.out
      rw [EAL.out] at e1
      refine ⟨rfl, p :: R', ⟨⟨h, R', rfl, HPR'.out, ?_, e1.same fun g hg => hne g fun e => ?_⟩⟩, turn_all B0.out T1.out (Below.refl _ _) (Chg.refl _ _) (Nat.le_of_eq HE.out.symm) _⟩
      · unfold Cb
        rw [hne p (by have := HPE.out; omega)]
        exact K1.out
      · rcases T1.out.foot g hg with h | h
        · exact HER.out (e ▸ h)
        · have := heap_lt HEW.out; omega)
    clear hE2
    simp [Leaves, settle, results, Try.results24, go_sem, e0]
    exact RES.out
  · have EA := Lib.hid (show (addL c.b c.l n).2 = 0 by unfold addL; rw [if_neg hf])
    have EC := Lib.hid (show addC c n = ({ takeC c (total c.l) 1 (nrm n) n n with l := (addL c.b c.l n).1 }, 0) from if_neg hf)
    rw [EA.out]
    clear hf
    go_wp2_with fail
    refine (must_ok w1).mono ?_
    rintro e w2 ⟨rfl, rfl⟩
    go_wp2_with fail
    refine (Of_any n _ hn).mono ?_
    rintro e w4 ⟨rfl, b2⟩
    have B2 := Lib.hid b2
    clear b2
    go_wp2_with fail
    refine (take_any (K1.out.mono B2.out) (total c.l) 1 (nrm n) n n (nrm_rng n) HO.out.rng).mono ?_
    rintro e w3 ⟨rfl, k3, c3⟩
    have K3 := Lib.hid k3
    have C3 := Lib.hid c3
    have hE3 : w3.heap[E]? = some (.cells #[.int .i64 0] 30 (0, 0)) := by
      have h1 := heap_lt HE1.out
      rw [c3.block E (Nat.lt_of_lt_of_le h1 B2.out.size) (by have := HPE.out; omega), B2.out.block E h1]
      exact HE1.out
    have e0 : w3.cell? ⟨E, 0, none⟩ = some (.int .i64 0) := by simp [World.cell?, hE3]
    have ef : w3.frozen? ⟨E, 0, none⟩ = false := by simp [World.frozen?, hE3]
    clear k3 c3 hE3
    go_wp2
    refine leaves_cons (f := 53) (args := #[.pointer (some ⟨E, 0, none⟩)]) (by simp) (by simp [go_sem]) ?_
    refine (caught_idle ⟨E, 0, none⟩ _).mono ?_
    rintro e u' w5 ⟨rfl, rfl, rfl⟩
    have e1 : (w3.setCell ⟨E, 0, none⟩ (.int .i64 0)).cell? ⟨E, 0, none⟩ = some (.int .i64 0) := World.cell?_setCell_same _ _ _ e0
    have RES := Lib.hid (show CRes w p (p :: R) (addC c n).1 (.int .i64 (addC c n).2) (.returned (.int .i64 0)) (w3.setCell ⟨E, 0, none⟩ (.int .i64 0)) by
      rw [EC.out]
      have hne : ∀ k, k ≠ E → (w3.setCell ⟨E, 0, none⟩ (.int .i64 0)).heap[k]? = w3.heap[k]? := fun k hk => Below.heap_setCell _ _ _ _ hk
      refine ⟨rfl, p :: R', ⟨⟨h, R', rfl, HPR'.out, ?_, ?_⟩⟩, turn_all B0.out T1.out B2.out C3.out (Nat.le_of_eq HE.out.symm) _⟩
      · unfold Cb
        rw [hne p (by have := HPE.out; omega)]
        exact K3.out
      · have hb : (takeC c (total c.l) 1 (nrm n) n n).b = c.b := (takeC_b _ _ _ _ _ _).1
        show HistAt _ h R' ((takeC c (total c.l) 1 (nrm n) n n).b : Int) (addL c.b c.l n).1
        rw [hb]
        refine H1.out.same fun g hg => ?_
        have hgs := (H1.out.own.mem g hg).2
        have hgE : g ≠ E := fun e => by
          rcases T1.out.foot g hg with h | h
          · exact HER.out (e ▸ h)
          · have := heap_lt HEW.out; omega
        rw [hne g hgE, C3.out.block g (Nat.lt_of_lt_of_le hgs B2.out.size) (fun e => HPR'.out (e ▸ hg)), B2.out.block g hgs])
    clear e0 ef
    simp [Leaves, settle, results, Try.results24, go_sem, e1]
    exact RES.out
end Go.Proofs.Ytgafnilcmhjpcaa.HCell
