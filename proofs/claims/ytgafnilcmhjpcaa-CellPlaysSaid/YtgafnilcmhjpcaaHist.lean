/- Histograms in memory: what their blocks hold; more, walked. Conditions: the buckets rise, sizes. -/
import Derived.Test.YtgafnilcmhjpcaaMem
import Derived.Test.YtgafnilcmhjpcaaItmIns
import Derived.Test.YtgafnilcmhjpcaaItmBsf
import Derived.WalkKit
import Derived.WalkSpells
import Derived.WalkLawsBesides
import Derived.Deep.QuietTactic
import Derived.Deep.RegionHeld3
import Derived.BigQuiet
namespace Go.Proofs.Ytgafnilcmhjpcaa.HHist
set_option linter.unusedVariables false
open Go.RowKit Go.Proofs.Ytgafnilcmhjpcaa.HMem

/-- Buckets, and how many stand in each. -/
abbrev IL := List (Int × Nat)
def total : IL → Nat
  | [] => 0
  | x :: r => x.2 + total r
def flat : IL → List Value
  | [] => []
  | x :: r => .int .i64 x.1 :: .int .u64 (x.2 : Int) :: flat r
/-- How many buckets are below a. -/
def pos : IL → Int → Nat
  | [], _ => 0
  | x :: r, a => if x.1 < a then pos r a + 1 else 0
/-- So many more in bucket a. -/
def moreL : IL → Int → Nat → IL
  | [], a, m => [(a, m)]
  | x :: r, a, m => if x.1 < a then x :: moreL r a m else if x.1 = a then (a, x.2 + m) :: r else (a, m) :: x :: r
def Rise (l : IL) : Prop := l.Pairwise fun x y => x.1 < y.1

theorem flat_length : ∀ l : IL, (flat l).length = l.length * 2
  | [] => rfl
  | x :: r => by simp only [flat, List.length_cons, flat_length r]; omega
theorem flat_append : ∀ l m : IL, flat (l ++ m) = flat l ++ flat m
  | [], m => rfl
  | x :: r, m => by simp [flat, flat_append r m]
theorem flat_take : ∀ (l : IL) (k : Nat), (flat l).take (k * 2) = flat (l.take k)
  | [], k => by simp [flat]
  | x :: r, 0 => by simp [flat]
  | x :: r, k + 1 => by rw [show (k + 1) * 2 = k * 2 + 1 + 1 by omega]; simp [flat, flat_take r k]
theorem flat_drop : ∀ (l : IL) (k : Nat), (flat l).drop (k * 2) = flat (l.drop k)
  | [], k => by simp [flat]
  | x :: r, 0 => by simp [flat]
  | x :: r, k + 1 => by rw [show (k + 1) * 2 = k * 2 + 1 + 1 by omega]; simp [flat, flat_drop r k]
theorem flat_get : ∀ (l : IL) (k : Nat) (x : Int × Nat), l[k]? = some x → (flat l)[k * 2]? = some (.int .i64 x.1) ∧ (flat l)[k * 2 + 1]? = some (.int .u64 (x.2 : Int))
  | [], k, x, h => by simp at h
  | y :: r, 0, x, h => by simp at h; subst h; simp [flat]
  | y :: r, k + 1, x, h => by
    rw [show (k + 1) * 2 = k * 2 + 1 + 1 by omega]
    simpa [flat] using flat_get r k x (by simpa using h)
theorem flat_one : ∀ (l : IL), ∀ v ∈ flat l, v.oneCell' = true
  | [], v, h => by simp [flat] at h
  | x :: r, v, h => by
    simp [flat] at h
    rcases h with rfl | rfl | h
    · rfl
    · rfl
    · exact flat_one r v h
theorem flat_set : ∀ (l : IL) (k : Nat) (x : Int × Nat) (m : Nat), l[k]? = some x → (flat l).set (k * 2 + 1) (.int .u64 (m : Int)) = flat (l.set k (x.1, m))
  | [], k, x, m, h => by simp at h
  | y :: r, 0, x, m, h => by simp at h; subst h; simp [flat]
  | y :: r, k + 1, x, m, h => by
    rw [show (k + 1) * 2 + 1 = (k * 2 + 1) + 1 + 1 by omega]
    simpa [flat] using flat_set r k x m (by simpa using h)
theorem pos_le : ∀ (l : IL) (a : Int), pos l a ≤ l.length
  | [], a => Nat.le_refl _
  | x :: r, a => by
    have := pos_le r a
    unfold pos
    split
    · simp; omega
    · omega
theorem Rise.tail {x : Int × Nat} {r : IL} (h : Rise (x :: r)) : Rise r := (List.pairwise_cons.1 h).2
theorem Rise.head {x : Int × Nat} {r : IL} (h : Rise (x :: r)) : ∀ y ∈ r, x.1 < y.1 := (List.pairwise_cons.1 h).1
/-- Below a: just those ahead of its place. -/
theorem pos_lt : ∀ (l : IL) (a : Int), Rise l → ∀ (k : Nat) (x : Int × Nat), l[k]? = some x → (x.1 < a ↔ k < pos l a)
  | [], a, h, k, x, hk => by simp at hk
  | y :: r, a, h, 0, x, hk => by
    simp at hk; subst hk
    unfold pos
    split <;> simp_all
  | y :: r, a, h, k + 1, x, hk => by
    have hk' : r[k]? = some x := by simpa using hk
    have ih := pos_lt r a h.tail k x hk'
    have hy := h.head x (List.mem_of_getElem? hk')
    unfold pos
    split
    · rw [ih]; omega
    · constructor
      · intro hx; omega
      · intro hx; omega
theorem moreL_there : ∀ (l : IL) (a : Int) (m : Nat), Rise l → ∀ x, l[pos l a]? = some x → x.1 = a → moreL l a m = l.set (pos l a) (a, x.2 + m)
  | [], a, m, h, x, hx, e => by simp at hx
  | y :: r, a, m, h, x, hx, e => by
    unfold pos at hx ⊢
    unfold moreL
    by_cases h1 : y.1 < a
    · rw [if_pos h1] at hx ⊢
      rw [if_pos h1, moreL_there r a m h.tail x (by simpa using hx) e]
      simp
    · rw [if_neg h1] at hx ⊢
      simp at hx
      subst hx
      rw [if_neg h1, if_pos e]
      simp
theorem moreL_not : ∀ (l : IL) (a : Int) (m : Nat), (∀ x, l[pos l a]? = some x → x.1 ≠ a) → moreL l a m = l.take (pos l a) ++ ((a, m) :: l.drop (pos l a))
  | [], a, m, h => rfl
  | y :: r, a, m, h => by
    unfold pos at h ⊢
    unfold moreL
    by_cases h1 : y.1 < a
    · rw [if_pos h1] at h ⊢
      rw [if_pos h1, moreL_not r a m (fun x hx => h x (by simpa using hx))]
      simp
    · rw [if_neg h1] at h ⊢
      rw [if_neg h1, if_neg (h y (by simp))]
      simp
theorem total_append : ∀ l m : IL, total (l ++ m) = total l + total m
  | [], m => by simp [total]
  | x :: r, m => by simp [total, total_append r m]; omega
theorem total_moreL : ∀ (l : IL) (a : Int) (m : Nat), total (moreL l a m) = total l + m
  | [], a, m => by simp [moreL, total]
  | x :: r, a, m => by
    unfold moreL
    split
    · simp [total, total_moreL r a m]; omega
    · split
      · simp [total]; omega
      · simp [total]; omega
theorem length_moreL : ∀ (l : IL) (a : Int) (m : Nat), (moreL l a m).length ≤ l.length + 1
  | [], a, m => by simp [moreL]
  | x :: r, a, m => by
    have := length_moreL r a m
    unfold moreL
    split
    · simp; omega
    · split <;> simp
theorem mem_moreL : ∀ (l : IL) (a : Int) (m : Nat) (y : Int × Nat), y ∈ moreL l a m → y.1 = a ∨ y ∈ l
  | [], a, m, y, h => by simp [moreL] at h; subst h; exact .inl rfl
  | x :: r, a, m, y, h => by
    unfold moreL at h
    split at h
    · rcases List.mem_cons.1 h with rfl | h
      · exact .inr (by simp)
      · exact (mem_moreL r a m y h).imp id (List.mem_cons_of_mem _)
    · split at h
      · rcases List.mem_cons.1 h with rfl | h
        · exact .inl rfl
        · exact .inr (List.mem_cons_of_mem _ h)
      · rcases List.mem_cons.1 h with rfl | h
        · exact .inl rfl
        · exact .inr h
theorem Rise.more : ∀ (l : IL) (a : Int) (m : Nat), Rise l → Rise (moreL l a m)
  | [], a, m, h => by simp [moreL, Rise]
  | x :: r, a, m, h => by
    unfold moreL
    split
    · rename_i h1
      refine List.pairwise_cons.2 ⟨fun y hy => ?_, Rise.more r a m h.tail⟩
      rcases mem_moreL r a m y hy with e | e
      · omega
      · exact h.head y e
    · split
      · rename_i h1 h2
        exact List.pairwise_cons.2 ⟨fun y hy => by have := h.head y hy; show a < y.1; omega, h.tail⟩
      · rename_i h1 h2
        refine List.pairwise_cons.2 ⟨fun y hy => ?_, h⟩
        rcases List.mem_cons.1 hy with rfl | hy
        · show a < _; omega
        · have := h.head y hy; show a < y.1; omega
theorem many_le : ∀ (l : IL) (x : Int × Nat), x ∈ l → x.2 ≤ total l
  | y :: r, x, h => by
    rcases List.mem_cons.1 h with rfl | h
    · simp [total]
    · have := many_le r x h; simp [total]; omega

/-- The block p holds a histogram; its blocks are G. -/
structure HistAt (w : World) (p : Nat) (G : List Nat) (bits : Int) (l : IL) : Prop where
  ex : ∃ v R, G = p :: R ∧ p ∉ R ∧ w.heap[p]? = some (.cells #[.int .i64 bits, v, .int .u64 (total l : Nat)] 100 (0, 0)) ∧ Row 105 2 w v l.length (flat l) R
section
variable {w w' : World} {p : Nat} {G : List Nat} {bits : Int} {l : IL}
theorem HistAt.same (h : HistAt w p G bits l) (s : Same G w w') : HistAt w' p G bits l := by
  obtain ⟨v, R, rfl, h1, h2, h3⟩ := h.ex
  exact ⟨v, R, rfl, h1, by rw [s p (by simp)]; exact h2, h3.same (s.sub fun k hk => by simp [hk])⟩
theorem HistAt.own (h : HistAt w p G bits l) : Own 0 w G := by
  obtain ⟨v, R, rfl, h1, h2, h3⟩ := h.ex
  exact ⟨List.nodup_cons.2 ⟨h1, h3.own.nodup⟩, fun g hg => by
    rcases List.mem_cons.1 hg with rfl | hg
    · exact ⟨Nat.zero_le _, heap_lt h2⟩
    · exact h3.own.mem g hg⟩
theorem HistAt.mem (h : HistAt w p G bits l) : p ∈ G := by
  obtain ⟨v, R, rfl, h1, h2, h3⟩ := h.ex
  simp
theorem HistAt.mono (h : HistAt w p G bits l) (b : Below w.heap.size w w') : HistAt w' p G bits l := h.same (Same.own b h.own)
end

/-- How a number stands to another. -/
def cmpI (a b : Int) : Int := if a < b then -1 else if b < a then 1 else 0
theorem cmp_any (a b : Int) (w : World) : Calls Try.prog 82 #[.int .i64 a, .int .i64 b] w fun e w' => e = .returned (.int .i64 (cmpI a b)) ∧ w = w' := by
  by_cases h1 : a < b
  · rw [show cmpI a b = -1 from if_pos h1]
    go_enter Try.func82, Try.ntmps82
    go_wp2
    go_ret
    exact ⟨rfl, rfl⟩
  · by_cases h2 : b < a
    · rw [show cmpI a b = 1 by unfold cmpI; rw [if_neg h1, if_pos h2]]
      go_enter Try.func82, Try.ntmps82
      go_wp2
      go_ret
      exact ⟨rfl, rfl⟩
    · rw [show cmpI a b = 0 by unfold cmpI; rw [if_neg h1, if_neg h2]]
      go_enter Try.func82, Try.ntmps82
      go_wp2
      go_ret
      exact ⟨rfl, rfl⟩
theorem by_any (a : Int) (m : Nat) (b : Int) (w : World) : Calls Try.prog 81 #[.agg #[.int .i64 a, .int .u64 m], .int .i64 b] w fun e w' => e = .returned (.int .i64 (cmpI a b)) ∧ Below w.heap.size w w' := by
  go_enter Try.func81, Try.ntmps81
  go_wp2_with fail
  refine (cmp_any a b _).mono ?_
  rintro e w' ⟨rfl, rfl⟩
  go_wp2
  go_ret
  exact ⟨rfl, (Below.refl _ _).alloc (Nat.le_refl _) _⟩
theorem cmpI_neg (a b : Int) : cmpI a b < 0 ↔ a < b := by unfold cmpI; split <;> (try split) <;> omega
theorem cmpI_zero (a b : Int) : cmpI a b = 0 ↔ a = b := by unfold cmpI; split <;> (try split) <;> omega

/-- Is bucket a there? -/
def thereL (l : IL) (a : Int) : Bool := match l[pos l a]? with | some x => decide (x.1 = a) | none => false
theorem search_any (w : World) (v : Value) (l : IL) (R : List Nat) (a : Int) (hr : Row 105 2 w v l.length (flat l) R) (hs : Rise l) (hl : l.length ≤ 4294967296) :
    Calls Try.prog 80 #[v, .int .i64 a, .func (.func 81) #[] #[]] w fun e w' =>
      e = .returned (.tuple #[.int .i64 (pos l a), .bool (thereL l a)]) ∧ Below w.heap.size w w' := by
  obtain ⟨ba, cap, rfl, _⟩ := hr.form
  have hget : ∀ h, h < l.length → l[h]? = some (l.getD h default) := fun h hh => by rw [List.getD_eq_getElem?_getD, List.getElem?_eq_getElem hh]; rfl
  have key := HItmBsf.any w ba l.length cap (fun h => .int .i64 (l.getD h default).1) (fun h => .int .u64 ((l.getD h default).2 : Nat)) (.int .i64 a) (fun h => cmpI (l.getD h default).1 a) (pos l a) (by omega) (fun h0 => by
    obtain ⟨g, off, cap', e1, e2, e3, e4, e5⟩ := hr.there h0
    cases e1
    refine ⟨g, off, rfl, fun h hh => ?_⟩
    obtain ⟨f1, f2⟩ := flat_get l h _ (hget h hh)
    exact ⟨(e5 _ _ f1).1, by have := (e5 _ _ f2).1; rwa [← Nat.add_assoc] at this⟩)
    (fun h hh w' hb => (by_any _ _ a w').mono fun e w'' h => h) (pos_le l a) (fun h hh => by rw [cmpI_neg]; exact pos_lt l a hs h _ (hget h hh))
  have e : HItmBsf.fnd (pos l a) l.length (fun h => cmpI (l.getD h default).1 a) = thereL l a := by
    unfold thereL
    rcases Nat.lt_or_ge (pos l a) l.length with h | h
    · rw [hget _ h]
      show decide _ = decide _
      simp only [cmpI_zero, h, true_and]
    · rw [List.getElem?_eq_none h]
      exact HItmBsf.fnd_no fun h' => by omega
  rw [e] at key
  exact key

end Go.Proofs.Ytgafnilcmhjpcaa.HHist
