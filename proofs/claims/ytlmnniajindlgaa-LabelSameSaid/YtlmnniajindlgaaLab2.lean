/- Labels: by, Sort, walked. Conditions: sizes. -/
import Derived.Test.YtlmnniajindlgaaLabKey
namespace Go.Proofs.Ytlmnniajindlgaa.HLab
set_option linter.unusedVariables false
open Go.RowKit Go.Proofs.Ytlmnniajindlgaa.HMem

/-- How two texts stand. -/
def cmpS (a b : ByteArray) : Int := if Lt a b then -1 else if Lt b a then 1 else 0
theorem less_lt (a b : ByteArray) : Op.bytesLess a.toList b.toList = decide (Lt a b) := by
  rw [Proofs.bytesLess_eq, Lib.toList_data, Lib.toList_data]
  rfl
theorem eq_lt (a b : ByteArray) : (a.toList == b.toList) = decide (a = b) := by
  rw [Lib.toList_data, Lib.toList_data]
  by_cases h : a = b
  · subst h; simp
  · have : ¬ a.data.toList = b.data.toList := fun e => h (bytes_ext e)
    simp [h]
    exact fun e => this (congrArg Array.toList e)
theorem cmpS_neg (a b : ByteArray) : cmpS a b < 0 ↔ Lt a b := by
  unfold cmpS
  split
  · simp [*]
  · split <;> simp [*]
theorem cmpS_zero (a b : ByteArray) : cmpS a b = 0 ↔ a = b := by
  unfold cmpS
  split
  · rename_i h; simp; exact h.ne
  · split
    · rename_i h; simp; exact fun e => h.ne e.symm
    · rename_i h k; simp; exact Lt.tri h k
set_option maxHeartbeats 1000000 in
theorem cmp_any (a b : ByteArray) (w : World) : Calls Try.prog 51 #[.string a, .string b] w fun e w' => e = .returned (.int .i64 (cmpS a b)) ∧ w = w' := by
  by_cases h1 : Lt a b
  · have t1 : Op.bytesLess a.toList b.toList = true := by rw [less_lt]; exact decide_eq_true h1
    have EC := Lib.hid (show cmpS a b = -1 from if_pos h1)
    clear h1
    go_enter Try.func51, Try.ntmps51
    go_wp2
    go_ret
    rw [EC.out]
    exact ⟨rfl, rfl⟩
  · have t1 : Op.bytesLess a.toList b.toList = false := by rw [less_lt]; exact decide_eq_false h1
    by_cases h2 : Lt b a
    · have t2 : (a.toList == b.toList) = false := by rw [eq_lt]; exact decide_eq_false h2.ne.symm
      have EC := Lib.hid (show cmpS a b = 1 by unfold cmpS; rw [if_neg h1, if_pos h2])
      clear h1 h2
      go_enter Try.func51, Try.ntmps51
      go_wp2
      go_ret
      rw [EC.out]
      exact ⟨rfl, rfl⟩
    · obtain rfl := Lt.tri h1 h2
      have EC := Lib.hid (show cmpS a a = 0 by unfold cmpS; rw [if_neg h1, if_neg h2])
      clear h1 h2
      go_enter Try.func51, Try.ntmps51
      go_wp2
      go_ret
      rw [EC.out]
      exact ⟨rfl, rfl⟩
theorem by_any (a b c : ByteArray) (w : World) : Calls Try.prog 37 #[.agg #[.string a, .string b], .string c] w fun e w' => e = .returned (.int .i64 (cmpS a c)) ∧ Below w.heap.size w w' := by
  go_enter Try.func37, Try.ntmps37
  go_wp2_with fail
  refine (cmp_any a c _).mono ?_
  rintro e w1 ⟨rfl, rfl⟩
  go_wp2
  go_ret
  exact ⟨rfl, (Below.refl _ _).alloc (Nat.le_refl _) _⟩
theorem search_any (w : World) (v : Value) (l : LL) (R : List Nat) (a : ByteArray) (hr : Row 42 2 w v l.length (flat l) R) (hs : Rise l) (hl : l.length ≤ 4611686018427387904) :
    Calls Try.prog 36 #[v, .string a, .func (.func 37) #[] #[]] w fun e w' =>
      e = .returned (.tuple #[.int .i64 (pos l a), .bool (thereL l a)]) ∧ Below w.heap.size w w' := by
  obtain ⟨ba, cap, rfl, _⟩ := hr.form
  have hget : ∀ h, h < l.length → l[h]? = some (l.getD h (⟨#[]⟩, ⟨#[]⟩)) := fun h hh => by rw [List.getD_eq_getElem?_getD, List.getElem?_eq_getElem hh]; rfl
  have key := HLabBsf.any w ba l.length cap (fun h => .string (l.getD h (⟨#[]⟩, ⟨#[]⟩)).1) (fun h => .string (l.getD h (⟨#[]⟩, ⟨#[]⟩)).2) (.string a) (fun h => cmpS (l.getD h (⟨#[]⟩, ⟨#[]⟩)).1 a) (pos l a) hl (fun h0 => by
    obtain ⟨g, off, cap', e1, e2, e3, e4, e5⟩ := hr.there h0
    cases e1
    refine ⟨g, off, rfl, fun h hh => ?_⟩
    obtain ⟨f1, f2⟩ := flat_get l h _ (hget h hh)
    exact ⟨(e5 _ _ f1).1, by have := (e5 _ _ f2).1; rwa [← Nat.add_assoc] at this⟩)
    (fun h hh w' hb => (by_any _ _ a w').mono fun e w'' h => h) (pos_le l a) (fun h hh => by rw [cmpS_neg]; exact pos_lt l a hs h _ (hget h hh))
  have e : HLabBsf.fnd (pos l a) l.length (fun h => cmpS (l.getD h (⟨#[]⟩, ⟨#[]⟩)).1 a) = thereL l a := by
    unfold thereL
    rcases Nat.lt_or_ge (pos l a) l.length with h | h
    · rw [hget _ h]
      show decide _ = decide _
      simp only [cmpS_zero, h, true_and]
    · rw [List.getElem?_eq_none h]
      exact HLabBsf.fnd_no fun h' => by omega
  rw [e] at key
  exact key

/-- Labels that are only read. -/
def LRow (w : World) (v : Value) (l : LL) : Prop :=
  ∃ a c, v = .slice a l.length c ∧ l.length ≤ c ∧ c ≤ maxLen ∧ (l = [] ∨ ∃ ad, a = some ad ∧ ∀ k x, l[k]? = some x → w.cell? (ad.add (k * 2)) = some (.string x.1) ∧ w.cell? { block := (ad.add (k * 2)).block, off := (ad.add (k * 2)).off + 1 } = some (.string x.2))
theorem LRow.mono {w w' : World} {v : Value} {l : LL} (h : LRow w v l) (b : Below w.heap.size w w') : LRow w' v l := by
  obtain ⟨a, c, h1, h2, h3, h4⟩ := h
  refine ⟨a, c, h1, h2, h3, h4.imp id fun ⟨ad, e, hc⟩ => ⟨ad, e, fun k x hx => ?_⟩⟩
  obtain ⟨k1, k2⟩ := hc k x hx
  exact ⟨(b.cell (World.block_lt_of_cell? _ _ k1)).trans k1, (b.cell (World.block_lt_of_cell? _ _ k2)).trans k2⟩
theorem LRow.at {w : World} {a : Option Addr} {n c : Nat} {l : LL} (h : LRow w (.slice a n c) l) (k : Nat) (x : ByteArray × ByteArray) (hx : l[k]? = some x) : ∃ ad, a = some ad ∧ w.cell? (ad.add (k * 2)) = some (.string x.1) ∧ w.cell? { block := (ad.add (k * 2)).block, off := (ad.add (k * 2)).off + 1 } = some (.string x.2) := by
  obtain ⟨a', c', h1, h2, h3, h4⟩ := h
  cases h1
  rcases h4 with rfl | ⟨ad, e, hc⟩
  · simp at hx
  · exact ⟨ad, e, hc k x hx⟩
theorem LRow.ofRow {w : World} {v : Value} {l : LL} {G : List Nat} (h : Row 42 2 w v l.length (flat l) G) : LRow w v l := by
  obtain ⟨a, c, rfl, h1, h2⟩ := h.form
  refine ⟨a, c, rfl, h1, h2, ?_⟩
  rcases Nat.eq_zero_or_pos l.length with h0 | h0
  · exact .inl (List.length_eq_zero_iff.1 h0)
  · obtain ⟨g, off, cap, e1, _, _, _, hc⟩ := h.there h0
    cases e1
    refine .inr ⟨_, rfl, fun k x hx => ?_⟩
    obtain ⟨f1, f2⟩ := flat_get l k x hx
    have c1 := (hc _ _ f1).1
    have c2 := (hc _ _ f2).1
    have ea : (⟨g, off, none⟩ : Addr).add (k * 2) = ⟨g, off + k * 2, none⟩ := by simp [Addr.add]
    rw [ea]
    exact ⟨c1, by rw [← Nat.add_assoc] at c2; exact c2⟩
/-- What Sort answers. -/
def SortAns (w : World) (l : LL) (e : Ending) (w' : World) : Prop :=
  (sortL l = none ∧ e = .returned (.tuple #[.slice none 0 0, .int .i64 11]) ∧ Below w.heap.size w w') ∨
  ∃ (s : LL) (v : Value) (G : List Nat), sortL l = some s ∧ e = .returned (.tuple #[v, .int .i64 0]) ∧ Row 42 2 w' v s.length (flat s) G ∧ (∀ g ∈ G, w.heap.size ≤ g) ∧ Below w.heap.size w w'
theorem sortA_step (acc : LL) (l : LL) (j : Nat) (x : ByteArray × ByteArray) (hx : l[j]? = some x) (h : thereL acc x.1 = false) : sortA acc (l.drop j) = sortA (insL acc x) (l.drop (j + 1)) := by
  have hj := (List.getElem?_eq_some_iff.1 hx).1
  rw [List.drop_eq_getElem_cons hj, Option.some.inj ((List.getElem?_eq_getElem hj).symm.trans hx), sortA, if_neg (by rw [h]; decide)]
theorem sortA_stop (acc : LL) (l : LL) (j : Nat) (x : ByteArray × ByteArray) (hx : l[j]? = some x) (h : thereL acc x.1 = true) : sortA acc (l.drop j) = none := by
  have hj := (List.getElem?_eq_some_iff.1 hx).1
  rw [List.drop_eq_getElem_cons hj, Option.some.inj ((List.getElem?_eq_getElem hj).symm.trans hx), sortA, if_pos h]
set_option maxHeartbeats 4000000 in
set_option maxRecDepth 20000 in
theorem Sort_any (w : World) (v : Value) (l : LL) (hv : LRow w v l) (hl : l.length ≤ 4398046511000) :
    Calls Try.prog 21 #[v] w (SortAns w l) := by
  obtain ⟨av, cv, e, _⟩ := id hv
  subst e
  have HV := Lib.hid hv
  obtain ⟨n, hn⟩ : ∃ n, n = l.length := ⟨_, rfl⟩
  rw [← hn] at hl HV ⊢
  have HN := Lib.hid hn
  obtain ⟨RES, hR⟩ : ∃ RES, RES = sortL l := ⟨_, rfl⟩
  have HR := Lib.hid hR
  clear hv hn hR
  go_enter Try.func21, Try.ntmps21
  go_wp2_with fail
  go_step3
  go_wp2_with fail
  go_step3
  go_wp2_with fail
  go_loopw [4, 5, 12] (fun v b i wr => ∃ (j : Nat) (acc : LL) (G : List Nat), j ≤ n ∧ i = .int .i64 j ∧ b = .bool false ∧ Row 42 2 wr v acc.length (flat acc) G ∧ Rise acc ∧ acc.length = j ∧ RES = sortA acc (l.drop j) ∧ (∀ g ∈ G, w.heap.size ≤ g) ∧ Below w.heap.size w wr) (fun _ _ i _ => n - (intOf i).toNat)
  case atStart => exact ⟨0, [], [], Nat.zero_le _, rfl, rfl, Row.nil _ _ _, List.Pairwise.nil, rfl, HR.out, (fun g hg => by cases hg), Below.refl _ _⟩
  case round =>
    obtain ⟨j, acc, G, hj, rfl, rfl, row, rise, hal, hres, hG, bb⟩ := hrel
    have ROW := Lib.hid row
    have RISE := Lib.hid rise
    have HAL := Lib.hid hal
    have HRES := Lib.hid hres
    have HG := Lib.hid hG
    have BB := Lib.hid bb
    clear row rise hal hres hG bb
    rcases Nat.lt_or_ge j n with hlt | hge
    · have hj1 : (j : Int) < n := by omega
      obtain ⟨x, hx⟩ : ∃ x, l[j]? = some x := ⟨_, List.getElem?_eq_getElem (by rw [← HN.out]; exact hlt)⟩
      obtain ⟨ad, rfl, c0, c1⟩ := (HV.out.mono BB.out).at j x hx
      obtain ⟨a, b⟩ := x
      have HX := Lib.hid hx
      have hlt' := Lib.hid hlt
      clear hx hlt
      go_wp2_with fail
      obtain ⟨W, hW⟩ : ∃ W, W = wr.alloc (.cells #[.string a, .string b] 42) := ⟨_, rfl⟩
      obtain ⟨X, hX⟩ : ∃ X, X = wr.heap.size := ⟨_, rfl⟩
      have BW := Lib.hid (show Below wr.heap.size wr W by rw [hW]; exact (Below.refl _ _).alloc (Nat.le_refl _) _)
      have x0 : W.cell? ⟨X, 0, none⟩ = some (.string a) := by rw [hW, hX, new_cell]; rfl
      have x1 : W.cell? ⟨X, 1, none⟩ = some (.string b) := by rw [hW, hX, new_cell]; rfl
      have RW := Lib.hid (ROW.out.same (Same.own BW.out ROW.out.own))
      have BBW := Lib.hid (BB.out.trans (BW.out.mono BB.out.size))
      rw [← hW, ← hX]
      clear hW hX c0 c1
      refine (search_any W _ acc G a RW.out RISE.out (by have := HAL.out; omega)).mono ?_
      rintro e w2 ⟨rfl, b2⟩
      replace x0 := (b2.cell (World.block_lt_of_cell? _ _ x0)).trans x0
      replace x1 := (b2.cell (World.block_lt_of_cell? _ _ x1)).trans x1
      have R2 := Lib.hid (RW.out.same (Same.own b2 RW.out.own))
      have B2 := Lib.hid (BBW.out.trans (b2.mono BBW.out.size))
      clear b2
      cases ht : thereL acc a with
      | true =>
        have EN := Lib.hid (show RES = none by rw [HRES.out]; exact sortA_stop acc l j _ HX.out ht)
        clear ht
        go_wp2_with fail
        rw [Exit.noGoto_ret]
        go_ret2
        exact .inl ⟨by rw [← HR.out, EN.out], rfl, B2.out⟩
      | false =>
        have ES := Lib.hid (show RES = sortA (insL acc (a, b)) (l.drop (j + 1)) by rw [HRES.out]; exact sortA_step acc l j _ HX.out ht)
        have RI := Lib.hid (RISE.out.ins (a, b) ht)
        obtain ⟨P, hP⟩ : ∃ P, P = pos acc a := ⟨_, rfl⟩
        rw [← hP]
        have hPl : P ≤ acc.length := by rw [hP]; exact pos_le acc a
        have HPP := Lib.hid hP
        clear ht hP
        go_wp2_with fail
        obtain ⟨W3, hW3⟩ : ∃ W3, W3 = w2.alloc (.cells #[.string a, .string b] 42) := ⟨_, rfl⟩
        have BW3 := Lib.hid (show Below w2.heap.size w2 W3 by rw [hW3]; exact (Below.refl _ _).alloc (Nat.le_refl _) _)
        have hgv : W3.heap[w2.heap.size]? = some (.cells [Value.string a, .string b].toArray 42 (0, 0)) := by rw [hW3]; exact heap_alloc_new w2 _
        have R3 := R2.out.same (Same.own BW3.out R2.out.own)
        rw [← hW3]
        have K := HLabIns.any W3 u4 acc.length (flat acc) G P w2.heap.size [.string a, .string b] R3 hPl (by have := HAL.out; omega) hgv rfl (fun h => by have := (R2.out.own.mem _ h).2; omega) (flat_one _) (fun u hu => by simp at hu; rcases hu with rfl | rfl <;> rfl)
        rw [flat_take, flat_drop] at K
        refine K.mono ?_
        rintro e w4 ⟨v4, rfl, G4, r4, t4⟩
        have hil : (insL acc (a, b)).length = acc.length + 1 := insL_length _ _
        have hif : flat (insL acc (a, b)) = flat (acc.take P) ++ ([.string a, .string b] ++ flat (acc.drop P)) := by
          rw [HPP.out]; unfold insL; rw [flat_append]; rfl
        rw [← hil, ← hif] at r4
        have R4 := Lib.hid r4
        have B3 := Lib.hid (B2.out.trans (BW3.out.mono B2.out.size))
        have O3 : Own w.heap.size W3 G := ⟨R3.own.nodup, fun g hg => ⟨HG.out g hg, (R3.own.mem g hg).2⟩⟩
        have B4 := Lib.hid (t4.bel O3 B3.out B3.out.size)
        have G4' := Lib.hid (show ∀ g ∈ G4, w.heap.size ≤ g from fun g hg => (t4.foot g hg).elim (HG.out g) fun h => Nat.le_trans B3.out.size h)
        have HIL := Lib.hid hil
        clear hW3 hgv R3 K r4 t4 hil hif O3
        go_wp2
        go_roundw
        case rel => exact ⟨j + 1, insL acc (a, b), G4, hlt'.out, by go_num, rfl, R4.out, RI.out, by rw [HIL.out, HAL.out], ES.out, G4'.out, B4.out⟩
        case measure => have := hlt'.out; simp [intOf]; omega
    · have hj1 : ¬ (j : Int) < n := by omega
      have ES := Lib.hid (show sortL l = some acc by
        rw [← HR.out, HRES.out, List.drop_of_length_le (by have := HN.out; omega)]; rfl)
      clear hge
      obtain ⟨a5, c5, rfl, _⟩ := ROW.out.form
      go_wp2
      try rw [Exit.noGoto_ret]
      go_ret2
      exact .inr ⟨acc, _, G, ES.out, rfl, ROW.out, HG.out, BB.out⟩
end Go.Proofs.Ytlmnniajindlgaa.HLab
