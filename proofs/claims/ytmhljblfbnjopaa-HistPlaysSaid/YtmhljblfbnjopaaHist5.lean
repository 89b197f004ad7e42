/- Histograms: Rank, Quantile, walked. -/
import Derived.Test.YtmhljblfbnjopaaHist3
import Derived.Test.YtmhljblfbnjopaaItmIdx
namespace Go.Proofs.Ytmhljblfbnjopaa.HHist
set_option linter.unusedVariables false
open Go.RowKit Go.Proofs.Ytmhljblfbnjopaa.HMem Go.Proofs.Ytmhljblfbnjopaa.HBucket
open Go.Proofs.Ytmhljblfbnjopaa.Print (I64)

/-- The bucket of a rank. -/
def rankL : IL → Nat → Option Int
  | [], _ => none
  | x :: r, k => if k ≤ x.2 then some x.1 else rankL r (k - x.2)
def rankZ (l : IL) (r : Nat) : Int × Bool := if r = 0 then (0, false) else match rankL l r with | some a => (a, true) | none => (0, false)
/-- What is left of a rank ahead of the k-th item. -/
def rv (l : IL) (r : Nat) : Nat → Nat
  | 0 => r
  | k + 1 => if rv l r k ≤ (l.getD k default).2 then rv l r k else rv l r k - (l.getD k default).2
def rp (l : IL) (r k : Nat) : Bool := decide (rv l r k ≤ (l.getD k default).2)
theorem getD_of {l : IL} {k : Nat} (h : k < l.length) : l[k]? = some (l.getD k default) := by rw [List.getD_eq_getElem?_getD, List.getElem?_eq_getElem h]; rfl
theorem rank_drop (l : IL) (r : Nat) : ∀ (d k : Nat), k + d ≤ l.length → (∀ j, k ≤ j → j < k + d → rp l r j = false) → rankL (l.drop k) (rv l r k) = rankL (l.drop (k + d)) (rv l r (k + d))
  | 0, k, _, _ => rfl
  | d + 1, k, h, hp => by
    have hk : k < l.length := by omega
    have h0 := of_decide_eq_false (hp k (Nat.le_refl _) (by omega))
    have e : l.drop k = l.getD k default :: l.drop (k + 1) := by
      rw [List.drop_eq_getElem_cons hk, List.getD_eq_getElem?_getD, List.getElem?_eq_getElem hk]; rfl
    rw [e, rankL, if_neg h0]
    have e2 : rv l r k - (l.getD k default).2 = rv l r (k + 1) := by rw [rv, if_neg h0]
    rw [e2, rank_drop l r d (k + 1) (by omega) (fun j h1 h2 => hp j (by omega) (by omega)), show k + 1 + d = k + (d + 1) by omega]
theorem rank_yes (l : IL) (r m : Nat) (hm : m < l.length) (hp : rp l r m = true) (hlt : ∀ j, j < m → rp l r j = false) : rankL l r = some (l.getD m default).1 := by
  have := rank_drop l r m 0 (by omega) (fun j _ h2 => hlt j (by omega))
  simp only [List.drop_zero, Nat.zero_add] at this
  rw [show rankL l r = rankL l (rv l r 0) from rfl, this, List.drop_eq_getElem_cons hm]
  have e : l[m] = l.getD m default := by rw [List.getD_eq_getElem?_getD, List.getElem?_eq_getElem hm]; rfl
  rw [e, rankL, if_pos (of_decide_eq_true hp)]
theorem rank_no (l : IL) (r : Nat) (hlt : ∀ j, j < l.length → rp l r j = false) : rankL l r = none := by
  have := rank_drop l r l.length 0 (by omega) (fun j _ h2 => hlt j (by omega))
  simp only [List.drop_zero, Nat.zero_add, List.drop_length] at this
  rw [show rankL l r = rankL l (rv l r 0) from rfl, this]
  rfl
theorem rv_pos (l : IL) (r : Nat) (h : 0 < r) : ∀ k, 0 < rv l r k
  | 0 => h
  | k + 1 => by
    have := rv_pos l r h k
    rw [rv]
    split
    · exact this
    · omega
theorem rv_zero (l : IL) : ∀ k, rv l 0 k = 0
  | 0 => rfl
  | k + 1 => by rw [rv, rv_zero l k, if_pos (Nat.zero_le _)]
theorem rv_le (l : IL) (r : Nat) : ∀ k, rv l r k ≤ r
  | 0 => Nat.le_refl _
  | k + 1 => by
    have := rv_le l r k
    rw [rv]
    split <;> omega
theorem first_or (p : Nat → Bool) : ∀ n, (∀ j, j < n → p j = false) ∨ ∃ m, m < n ∧ p m = true ∧ ∀ j, j < m → p j = false
  | 0 => .inl (by omega)
  | n + 1 => by
    rcases first_or p n with h | ⟨m, h1, h2, h3⟩
    · cases e : p n
      · exact .inl fun j hj => by
          by_cases e2 : j = n
          · rw [e2]; exact e
          · exact h j (by omega)
      · exact .inr ⟨n, by omega, e, h⟩
    · exact .inr ⟨m, by omega, h2, h3⟩

set_option maxRecDepth 20000 in
theorem rankC_any (w : World) (X : Nat) (a : Int) (m v : Nat) (hX : w.heap[X]? = some (.cells #[.int .u64 v] 41 (0, 0))) (hv : v < 18446744073709551616) :
    Calls Try.prog 44 #[.agg #[.int .i64 a, .int .u64 m], .pointer (some ⟨X, 0, none⟩)] w fun e w' => e = .returned (.bool (decide (v ≤ m))) ∧ (w'.heap[X]? = some (.cells #[.int .u64 ((if v ≤ m then v else v - m : Nat) : Int)] 41 (0, 0)) ∧ Chg (· = X) w w') := by
  have c0 : w.cell? ⟨X, 0, none⟩ = some (.int .u64 v) := by simp [World.cell?, hX]
  have f0 : w.frozen? ⟨X, 0, none⟩ = false := by simp [World.frozen?, hX]
  have hXl := heap_lt hX
  have HX := Lib.hid hX
  clear hX
  obtain ⟨Y, hY⟩ : ∃ Y, Y = w.heap.size := ⟨_, rfl⟩
  have n1 : ¬ Y = X := by omega
  by_cases hle : v ≤ m
  · have t1 : ((v : Nat) : Int) ≤ ((m : Nat) : Int) := by omega
    have HLE := Lib.hid hle
    clear hle hY n1
    go_enter Try.func44, Try.ntmps44
    go_wp2
    go_ret
    exact ⟨rfl, (Below.heap_alloc w _ X hXl).trans HX.out, (Chg.refl _ _).alloc _⟩
  · have t1 : ¬ ((v : Nat) : Int) ≤ ((m : Nat) : Int) := by omega
    have s1 : IntKind.u64.wrap (((v : Nat) : Int) - ((m : Nat) : Int)) = ((v - m : Nat) : Int) := by rw [u64_in _ (by omega) (by omega)]; omega
    have HLE := Lib.hid hle
    clear hle hY
    go_enter Try.func44, Try.ntmps44
    go_wp2
    go_ret
    refine ⟨rfl, ?_, (Chg.set w X 0 _).alloc _⟩
    exact (Below.heap_alloc _ _ X (by simpa [World.setCell] using hXl)).trans (set_at HX.out 0 _)

/-- Ahead of the k-th item: what is left of the rank, in its box. -/
structure RI (W : World) (X : Nat) (l : IL) (r k : Nat) (w' : World) : Prop where
  box : w'.heap[X]? = some (.cells #[.int .u64 (rv l r k : Nat)] 41 (0, 0))
  chg : Chg (· = X) W w'
set_option maxHeartbeats 1000000 in
set_option maxRecDepth 20000 in
theorem Rank_any {w : World} {p : Nat} {G : List Nat} {b : Nat} {l : IL} (h : HistAt w p G b l) (hl : l.length ≤ 4294967296) (r : Nat) (hr : r < 18446744073709551616) :
    Calls Try.prog 19 #[.pointer (some ⟨p, 0, none⟩), .int .u64 r] w fun e w' => e = .returned (.tuple #[.int .i64 (rankZ l r).1, .bool (rankZ l r).2]) ∧ Below w.heap.size w w' := by
  obtain ⟨c0, c2, v, R, rfl, hpR, c1, hrow⟩ := h.cells
  obtain ⟨ba, cap, rfl, _⟩ := hrow.form
  have HW := h.own
  obtain ⟨X, hX⟩ : ∃ X, X = w.heap.size := ⟨_, rfl⟩
  obtain ⟨W, hW⟩ : ∃ W, W = w.alloc (.cells #[.int .u64 r] 41) := ⟨_, rfl⟩
  have BW : Below w.heap.size w W := by rw [hW]; exact (Below.refl _ _).alloc (Nat.le_refl _) _
  have hbx : W.heap[X]? = some (.cells #[.int .u64 r] 41 (0, 0)) := by rw [hW, hX]; exact heap_alloc_new w _
  have i0 : RI W X l r 0 W := ⟨hbx, Chg.refl _ _⟩
  have hRX : ∀ g ∈ R, g ≠ X := fun g hg => by have := (HW.mem g (by simp [hg])).2; omega
  have hpX : p ≠ X := by have := (HW.mem p (by simp)).2; omega
  have hcell : ∀ (k : Nat) (w' : World), RI W X l r k w' → Row 54 2 w' (.slice ba l.length cap) l.length (flat l) R := fun k w' hi =>
    (hrow.same (Same.own BW hrow.own)).same fun g hg => hi.chg.block g (Nat.lt_of_lt_of_le (hrow.own.mem g hg).2 BW.size) (hRX g hg)
  have hcp : ∀ (k : Nat) (w' : World), RI W X l r k w' → w'.cell? ⟨p, 1, none⟩ = some (.slice ba l.length cap) := fun k w' hi =>
    (World.cell?_of_block (a := ⟨p, 1, none⟩) (hi.chg.block p (Nat.lt_of_lt_of_le (HW.mem p (by simp)).2 BW.size) hpX)).trans ((BW.cell (p := ⟨p, 1, none⟩) (HW.mem p (by simp)).2).trans c1)
  have hba : 0 < l.length → ∃ g off, ba = some ⟨g, off, none⟩ ∧ ∀ k w', RI W X l r k w' → ∀ h, h < l.length → w'.cell? ⟨g, off + h * 2, none⟩ = some (.int .i64 (l.getD h default).1) ∧ w'.cell? ⟨g, off + h * 2 + 1, none⟩ = some (.int .u64 ((l.getD h default).2 : Nat)) := fun h0 => by
    obtain ⟨g, off, cap', e1, e2, e3, e4, e5⟩ := hrow.there h0
    cases e1
    refine ⟨g, off, rfl, fun k w' hi j hj => ?_⟩
    obtain ⟨g', off', cap', e1, _, _, _, e5⟩ := (hcell k w' hi).there h0
    cases e1
    obtain ⟨f1, f2⟩ := flat_get l j _ (getD_of hj)
    exact ⟨(e5 _ _ f1).1, by have := (e5 _ _ f2).1; rwa [← Nat.add_assoc] at this⟩
  have hf : ∀ h, h < l.length → ∀ w', RI W X l r h w' → Calls Try.prog 44 #[.agg #[.int .i64 (l.getD h default).1, .int .u64 ((l.getD h default).2 : Nat)], .pointer (some ⟨X, 0, none⟩)] w' fun e w'' => e = .returned (.bool (rp l r h)) ∧ RI W X l r (h + 1) w'' := fun k hk w' hi =>
    (rankC_any w' X _ _ (rv l r k) hi.box (by have := rv_le l r k; omega)).mono fun e w'' h => ⟨h.1, by rw [rv]; exact h.2.1, hi.chg.trans h.2.2⟩
  have HI0 := Lib.hid i0
  have HBA := Lib.hid hba
  have HF := Lib.hid hf
  have HCP := Lib.hid hcp
  have HB := Lib.hid BW
  have HX := Lib.hid hX
  have hXW : X < W.heap.size := heap_lt hbx
  have HHB := Lib.hid hbx
  have hfin : ∀ k w', RI W X l r k w' → Below w.heap.size w w' := fun k w' hi => BW.trans (hi.chg.below (fun k hk => by omega) BW.size)
  have HFIN := Lib.hid hfin
  have HC := Lib.hid hcell
  have c1' := (BW.cell (World.block_lt_of_cell? _ _ c1)).trans c1
  clear h i0 hba hf hcp hcell BW hRX hpX HW hrow hpR c0 c2 hfin hbx hXW c1
  go_enter Try.func19, Try.ntmps19
  have hl9 := hl
  rcases first_or (rp l r) l.length with hno | ⟨m, hm, hpm, hlt⟩
  · have K := Lib.hid (HItmIdx.no W ba l.length cap _ _ (.pointer (some ⟨X, 0, none⟩)) (rp l r) (RI W X l r) (by omega) HBA.out HF.out hno HI0.out)
    have HNO := Lib.hid hno
    subst hX
    subst hW
    clear hno
    go_wp2_with fail
    refine K.out.mono ?_
    rintro e w2 ⟨rfl, i2⟩
    have I2 := Lib.hid i2
    have b0 : w2.cell? ⟨w.heap.size, 0, none⟩ = some (.int .u64 (rv l r l.length : Nat)) := by simp [World.cell?, i2.box]
    have BF := Lib.hid (HFIN.out _ _ i2)
    clear i2 K c1'
    rcases Nat.eq_zero_or_pos r with h0 | h0
    · have E := Lib.hid (show rankZ l r = (0, false) from if_pos h0)
      rw [show rv l r l.length = 0 by rw [h0]; exact rv_zero l _] at b0
      clear h0
      go_wp2
      go_ret2
      exact ⟨by rw [E.out]; rfl, BF.out⟩
    · have hp := rv_pos l r h0 l.length
      have E := Lib.hid (show rankZ l r = (0, false) by unfold rankZ; rw [if_neg (by omega), rank_no l r HNO.out])
      obtain ⟨q, hq⟩ : ∃ q, q = rv l r l.length := ⟨_, rfl⟩
      rw [← hq] at b0 hp
      have t1 : (((q : Nat) : Int) == 0) = false := by rw [beq_eq_false_iff_ne]; omega
      clear h0 hq
      go_wp2
      go_ret2
      exact ⟨by rw [E.out]; rfl, BF.out⟩
  · have K := Lib.hid (HItmIdx.yes W ba l.length cap _ _ (.pointer (some ⟨X, 0, none⟩)) (rp l r) (RI W X l r) (by omega) HBA.out HF.out m hm hpm hlt HI0.out)
    have HM := Lib.hid hm
    have HPM := Lib.hid hpm
    have HLT := Lib.hid hlt
    subst hX
    subst hW
    clear hm hpm hlt
    go_wp2_with fail
    refine K.out.mono ?_
    rintro e w2 ⟨rfl, i2⟩
    have I2 := Lib.hid i2
    have b0 : w2.cell? ⟨w.heap.size, 0, none⟩ = some (.int .u64 (rv l r (m + 1) : Nat)) := by simp [World.cell?, i2.box]
    have cp := HCP.out _ _ i2
    have RC := Lib.hid (HC.out _ _ i2)
    have BF := Lib.hid (HFIN.out _ _ i2)
    clear i2 K c1'
    rcases Nat.eq_zero_or_pos r with h0 | h0
    · have E := Lib.hid (show rankZ l r = (0, false) from if_pos h0)
      rw [show rv l r (m + 1) = 0 by rw [h0]; exact rv_zero l _] at b0
      clear h0
      go_wp2
      go_ret2
      exact ⟨by rw [E.out]; rfl, BF.out⟩
    · have hp := rv_pos l r h0 (m + 1)
      have E := Lib.hid (show rankZ l r = ((l.getD m default).1, true) by unfold rankZ; rw [if_neg (by omega), rank_yes l r m HM.out HPM.out HLT.out])
      obtain ⟨q, hq⟩ : ∃ q, q = rv l r (m + 1) := ⟨_, rfl⟩
      rw [← hq] at b0 hp
      have t1 : (((q : Nat) : Int) == 0) = false := by rw [beq_eq_false_iff_ne]; omega
      obtain ⟨g, off, cap', e1, _, _, _, hc⟩ := RC.out.there (by have := HM.out; omega)
      cases e1
      have cm := (hc _ _ (flat_get l m _ (getD_of HM.out)).1).1
      have hm1 : (m : Int) < l.length := by have := HM.out; omega
      obtain ⟨A, hA⟩ : ∃ A, A = (l.getD m default).1 := ⟨_, rfl⟩
      rw [← hA] at cm E
      clear h0 hq hc hA
      go_wp2
      go_ret2
      exact ⟨by rw [E.out]; rfl, BF.out⟩

end Go.Proofs.Ytmhljblfbnjopaa.HHist
