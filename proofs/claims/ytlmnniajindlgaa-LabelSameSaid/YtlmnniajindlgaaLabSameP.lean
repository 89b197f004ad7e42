/- LabelSame: plain laws of lists of labels of different names. Conditions: none. -/
import Derived.Test.YtlmnniajindlgaaLabSet
namespace Go.Proofs.Ytlmnniajindlgaa.HLab
set_option linter.unusedVariables false

theorem addS_nodup (acc : LL) (x : ByteArray × ByteArray) (h : (acc.map (·.1)).Nodup) : ((addS acc x).map (·.1)).Nodup := by
  unfold addS
  cases hg : getL acc x.1 with
  | some v => simpa using h
  | none =>
    simp only [Option.isSome_none, Bool.false_eq_true, if_false, List.map_append, List.map_cons, List.map_nil]
    rw [List.nodup_append]
    refine ⟨h, by simp, fun a ha b hb => ?_⟩
    simp at hb
    subst hb
    obtain ⟨y, hy, rfl⟩ := List.mem_map.1 ha
    exact getL_none.1 hg y hy
theorem setL_inv (P : ByteArray × ByteArray → Prop) (hP : ∀ c, P (lab1 c)) (xs : List UInt8) : ((setL xs).map (·.1)).Nodup ∧ ∀ x ∈ setL xs, P x := by
  have key : ∀ (l : List UInt8) (acc : LL), (acc.map (·.1)).Nodup → (∀ x ∈ acc, P x) → ((l.foldl (fun acc c => addS acc (lab1 c)) acc).map (·.1)).Nodup ∧ ∀ x ∈ l.foldl (fun acc c => addS acc (lab1 c)) acc, P x := by
    intro l
    induction l with
    | nil => intro acc h1 h2; exact ⟨h1, h2⟩
    | cons c r ih =>
      intro acc h1 h2
      refine ih _ (addS_nodup acc _ h1) fun x hx => ?_
      replace hx : x ∈ addS acc (lab1 c) := hx
      unfold addS at hx
      split at hx
      · exact h2 x hx
      · rcases List.mem_append.1 hx with h | h
        · exact h2 x h
        · simp at h
          subst h
          exact hP c
  exact key xs [] (by simp) (fun x h => by cases h)
theorem oneB_named (n : Nat) (h : 97 ≤ n ∧ n < 127) : named (oneB n) = true := by
  have e : oneB n = ⟨⟨[UInt8.ofNat n]⟩⟩ := by refine bytes_ext ?_; rw [oneB, strOfNums_data]; rfl
  rw [e]
  refine named_of (by simp) (by simp) fun c hc => ?_
  simp at hc
  subst hc
  rw [UInt8.toNat_ofNat']
  omega
theorem oneB_size (n : Nat) : (oneB n).size = 1 := by rw [oneB, strOfNums_size]; rfl
theorem oneB_inj {a b : Nat} (ha : a < 256) (hb : b < 256) (h : oneB a = oneB b) : a = b := by
  have e : ∀ n, (oneB n).data.toList = [UInt8.ofNat n] := fun n => by rw [oneB, strOfNums_data]; rfl
  have := congrArg (fun s : ByteArray => s.data.toList) h
  simp only [e] at this
  have := congrArg UInt8.toNat (List.cons.inj this).1
  rw [UInt8.toNat_ofNat', UInt8.toNat_ofNat'] at this
  omega
theorem lab1_named (c : UInt8) : named (lab1 c).1 = true ∧ named (lab1 c).2 = true ∧ (lab1 c).1.size = 1 ∧ (lab1 c).2.size = 1 :=
  ⟨oneB_named _ (by omega), oneB_named _ (by omega), oneB_size _, oneB_size _⟩
/-- Of a list its labels' key. -/
theorem set_key (n : ByteArray) (hn : named n = true) (hs : n.size ≤ 64) (xs : List UInt8) (h6 : xs.length ≤ 6) : ∃ s k, sortL (setL xs) = some s ∧ keyL n (setL xs) = (k, 0) ∧ IsKey k n s := by
  obtain ⟨h1, h2⟩ := setL_inv (fun x => named x.1 = true ∧ named x.2 = true ∧ x.1.size = 1 ∧ x.2.size = 1) lab1_named xs
  have hl := setL_length xs
  obtain ⟨s, hs'⟩ := sortL_some h1
  have hp := sortL_perm hs'
  have ho : okL n (setL xs) = true := by
    unfold okL
    rw [hn, decide_eq_true (by omega), Bool.true_and, Bool.true_and, List.all_eq_true]
    intro x hx
    rw [(h2 x hx).1, (h2 x hx).2.1]
    rfl
  have hlen := encL_le n 1 s fun x hx => by
    have := h2 x (hp.mem_iff.1 hx)
    omega
  have hpl := hp.length_eq
  have hk := keyL_ok ho hs' (by omega)
  obtain ⟨s', e, hi⟩ := IsKey.of hk
  rw [hs'] at e
  cases e
  exact ⟨s, _, hs', hk, hi⟩
theorem perm_of_sub : ∀ (x y : LL), x.Nodup → (∀ a ∈ x, a ∈ y) → y.length ≤ x.length → x.Perm y
  | [], y, _, _, hl => by
    have : y = [] := List.length_eq_zero_iff.1 (by simpa using hl)
    rw [this]
  | a :: r, y, hn, hs, hl => by
    have ha := hs a (by simp)
    obtain ⟨u, v, rfl⟩ := List.append_of_mem ha
    rw [List.nodup_cons] at hn
    have ih := perm_of_sub r (u ++ v) hn.2 (fun b hb => by
      have h := hs b (by simp [hb])
      have hne : b ≠ a := fun e => hn.1 (by rw [← e]; exact hb)
      rw [List.mem_append, List.mem_cons] at h
      rw [List.mem_append]
      rcases h with h | h | h
      · exact .inl h
      · exact absurd h hne
      · exact .inr h) (by simp at hl ⊢; omega)
    exact (List.Perm.cons a ih).trans List.perm_middle.symm
theorem nodup_of_names {l : LL} (h : (l.map (·.1)).Nodup) : l.Nodup := by
  rw [List.nodup_iff_pairwise_ne] at h ⊢
  rw [List.pairwise_map] at h
  exact h.imp fun hab e => hab (by rw [e])
/-- What the law tells of two lists. -/
def likeL (x y : LL) : Bool := x.all fun a => decide (getL y a.1 = some a.2)
theorem likeL_take (x y : LL) (j : Nat) (a : ByteArray × ByteArray) (h : x[j]? = some a) : likeL (x.take (j + 1)) y = (likeL (x.take j) y && decide (getL y a.1 = some a.2)) := by
  unfold likeL; rw [List.take_add_one, h, List.all_append]; simp
theorem like_perm {x y : LL} (hx : (x.map (·.1)).Nodup) (hy : (y.map (·.1)).Nodup) : (decide (x.length = y.length) && likeL x y) = true ↔ x.Perm y := by
  rw [Bool.and_eq_true, decide_eq_true_eq]
  unfold likeL
  rw [List.all_eq_true]
  constructor
  · rintro ⟨h1, h2⟩
    refine perm_of_sub x y (nodup_of_names hx) (fun a ha => ?_) (by omega)
    exact getL_some (of_decide_eq_true (h2 a ha))
  · intro p
    exact ⟨p.length_eq, fun a ha => decide_eq_true (getL_mem hy a (p.mem_iff.1 ha))⟩
/-- One key just if all is the same. -/
theorem same_key {n o j k : ByteArray} {x y s t : LL} (hx : sortL x = some s) (hy : sortL y = some t) (h1 : IsKey j n s) (h2 : IsKey k o t) (a : Bool)
    (ha : a = (decide (n = o) && (decide (x.length = y.length) && likeL x y))) : decide (j = k) = a := by
  have hp := like_perm (sortL_nodup hx) (sortL_nodup hy)
  subst ha
  rw [Bool.eq_iff_iff, decide_eq_true_eq, Bool.and_eq_true, decide_eq_true_eq, hp]
  constructor
  · rintro rfl
    obtain ⟨e1, e2⟩ := h1.one h2
    subst e2
    exact ⟨e1, (sortL_perm hx).symm.trans (sortL_perm hy)⟩
  · rintro ⟨rfl, p⟩
    have := sortL_perm_eq p hx
    rw [hy] at this
    cases this
    exact bytes_ext (h1.enc.trans h2.enc.symm)
end Go.Proofs.Ytlmnniajindlgaa.HLab
