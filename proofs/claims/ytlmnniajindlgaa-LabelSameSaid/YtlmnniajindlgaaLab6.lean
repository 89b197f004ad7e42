/- Labels: Key's closures, walked. Conditions: sizes. -/
import Derived.Test.YtlmnniajindlgaaLab5
import Derived.Test.YtlmnniajindlgaaLabIdx2
import Derived.Test.YtlmnniajindlgaaBld
namespace Go.Proofs.Ytlmnniajindlgaa.HLab
set_option linter.unusedVariables false
open Go.RowKit Go.Proofs.Ytlmnniajindlgaa.HMem Go.Proofs.Ytlmnniajindlgaa.HBld

/-- Sizes of labels' texts. -/
def Szs (l : LL) : Prop := ∀ x ∈ l, x.1.size ≤ 140737488355328 ∧ x.2.size ≤ 140737488355328
def badB (x : ByteArray × ByteArray) : Bool := !(named x.1 && named x.2)
set_option maxHeartbeats 1000000 in
theorem wrong_any (a b : ByteArray) (w : World) (ha : a.size ≤ 140737488355328) (hb : b.size ≤ 140737488355328) :
    Calls Try.prog 39 #[.agg #[.string a, .string b]] w fun e w' => e = .returned (.bool (badB (a, b))) ∧ Below w.heap.size w w' := by
  cases hn : named a with
  | false =>
    have E := Lib.hid (show badB (a, b) = true by unfold badB; simp [hn])
    have K := fun u => named_any a u ha
    rw [hn] at K
    have K' := Lib.hid K
    clear hn K
    go_enter Try.func39, Try.ntmps39
    go_wp2_with fail
    refine (K'.out _).mono ?_
    rintro e w1 ⟨rfl, rfl⟩
    go_wp2
    go_ret
    exact ⟨by rw [E.out]; rfl, (Below.refl _ _).alloc (Nat.le_refl _) _⟩
  | true =>
    have E := Lib.hid (show badB (a, b) = !named b by unfold badB; simp [hn])
    have K := fun u => named_any a u ha
    rw [hn] at K
    have K' := Lib.hid K
    have K2 := Lib.hid (fun u => named_any b u hb)
    clear hn K
    go_enter Try.func39, Try.ntmps39
    go_wp2_with fail
    refine (K'.out _).mono ?_
    rintro e w1 ⟨rfl, rfl⟩
    go_wp2_with fail
    refine (K2.out _).mono ?_
    rintro e w1 ⟨rfl, rfl⟩
    go_wp2
    go_ret
    exact ⟨by rw [E.out]; rfl, (Below.refl _ _).alloc (Nat.le_refl _) _⟩
theorem u8_size (s : ByteArray) (h : s.size < 256) : ((UInt8.ofNat s.size).toNat : Int) = (s.size : Int) := by rw [UInt8.toNat_ofNat']; omega
set_option maxHeartbeats 1000000 in
theorem put_any {w : World} {b : Nat} {G : List Nat} {l : List UInt8} (h : BldAt w b G l) (s : ByteArray) (hs : s.size < 256) (hl : l.length ≤ 1000000) :
    Calls Try.prog 42 #[.string s, .pointer (some ⟨b, 0, none⟩)] w fun e w' => e = .returned (.tuple #[]) ∧ ∃ G', BldAt w' b G' (l ++ txL s) ∧ Turn G G' w w' := by
  have H := Lib.hid h
  have e1 : IntKind.u8.wrap (s.size : Int) = (s.size : Int) := by simp [IntKind.wrap, IntKind.signed, IntKind.bits]; omega
  have K := byte_any h (UInt8.ofNat s.size) (by omega)
  rw [u8_size s hs] at K
  have K' := Lib.hid K
  clear h K
  go_enter Try.func42, Try.ntmps42
  go_wp2_with fail
  refine K'.out.mono ?_
  rintro e w1 ⟨rfl, G1, h1, t1⟩
  have H1 := Lib.hid h1
  have T1 := Lib.hid t1
  clear h1 t1 K'
  go_wp2_with fail
  refine (str_any H1.out s (by simp; omega)).mono ?_
  rintro e w2 ⟨rfl, G2, h2, t2⟩
  have H2 := Lib.hid (show BldAt w2 b G2 (l ++ txL s) by
    have e : l ++ [UInt8.ofNat s.size] ++ s.data.toList = l ++ txL s := by simp [txL]
    rw [← e]; exact h2)
  have T2 := Lib.hid (T1.out.trans t2)
  clear h2 t2
  go_wp2
  go_end0
  exact ⟨rfl, G2, H2.out, T2.out⟩
theorem first_bad (n : Nat) (p : Nat → Bool) : (∀ j, j < n → p j = false) ∨ ∃ m, m < n ∧ p m = true ∧ ∀ j, j < m → p j = false := by
  induction n with
  | zero => exact .inl fun j hj => absurd hj (Nat.not_lt_zero j)
  | succ n ih =>
    rcases ih with h | ⟨m, h1, h2, h3⟩
    · cases hp : p n with
      | false =>
        refine .inl fun j hj => ?_
        by_cases e : j = n
        · subst e; exact hp
        · exact h j (by omega)
      | true => exact .inr ⟨n, by omega, hp, h⟩
    · exact .inr ⟨m, by omega, h2, h3⟩
set_option maxHeartbeats 2000000 in
set_option maxRecDepth 20000 in
theorem contains_any (w : World) (v : Value) (l : LL) (hv : LRow w v l) (hl : l.length ≤ 4398046511000) (hz : Szs l) :
    Calls Try.prog 41 #[v, .func (.func 39) #[] #[]] w fun e w' => e = .returned (.bool (l.any badB)) ∧ Below w.heap.size w w' := by
  obtain ⟨av, cv, e, _⟩ := id hv
  subst e
  have HV := Lib.hid hv
  obtain ⟨n, hn⟩ : ∃ n, n = l.length := ⟨_, rfl⟩
  rw [← hn] at hl HV ⊢
  have HN := Lib.hid hn
  clear hv hn
  have hget : ∀ h, h < n → l[h]? = some (l.getD h (⟨#[]⟩, ⟨#[]⟩)) := fun h hh => by rw [List.getD_eq_getElem?_getD, List.getElem?_eq_getElem (by rw [← HN.out]; exact hh)]; rfl
  have hba : 0 < n → ∃ ad, av = some ad ∧ ∀ (k : Nat) w', Below w.heap.size w w' → ∀ h, h < n → w'.cell? (ad.add (h * 2)) = some (Value.string (l.getD h (⟨#[]⟩, ⟨#[]⟩)).1) ∧ w'.cell? { block := (ad.add (h * 2)).block, off := (ad.add (h * 2)).off + 1 } = some (Value.string (l.getD h (⟨#[]⟩, ⟨#[]⟩)).2) := fun h0 => by
    obtain ⟨ad, e, _⟩ := HV.out.at 0 _ (hget 0 h0)
    refine ⟨ad, e, fun k w' hw h hh => ?_⟩
    obtain ⟨ad', e', k1, k2⟩ := HV.out.at h _ (hget h hh)
    rw [e] at e'; cases e'
    exact ⟨(hw.cell (World.block_lt_of_cell? _ _ k1)).trans k1, (hw.cell (World.block_lt_of_cell? _ _ k2)).trans k2⟩
  have hf : ∀ h, h < n → ∀ w', Below w.heap.size w w' → Calls Try.prog 39 #[.agg #[.string (l.getD h (⟨#[]⟩, ⟨#[]⟩)).1, .string (l.getD h (⟨#[]⟩, ⟨#[]⟩)).2]] w' fun e w'' => e = .returned (.bool (badB (l.getD h (⟨#[]⟩, ⟨#[]⟩)))) ∧ Below w.heap.size w w'' := fun h hh w' hw => by
    have hx := hz _ (List.mem_of_getElem? (hget h hh))
    exact (wrong_any _ _ w' hx.1 hx.2).mono fun e w'' ⟨h1, h2⟩ => ⟨h1, hw.trans (h2.mono hw.size)⟩
  rcases first_bad n (fun h => badB (l.getD h (⟨#[]⟩, ⟨#[]⟩))) with h | ⟨m, h1, h2, h3⟩
  · have E := Lib.hid (show l.any badB = false by
      rw [List.any_eq_false]
      intro x hx
      obtain ⟨k, hk⟩ := List.mem_iff_getElem?.1 hx
      have hkn : k < n := by rw [HN.out]; exact (List.getElem?_eq_some_iff.1 hk).1
      have := h k hkn
      rw [hget k hkn] at hk
      injection hk with hk
      rw [hk] at this
      simp [this])
    go_enter Try.func41, Try.ntmps41
    go_wp2_with fail
    refine (HLabIdx2.no w av n cv (fun h => .string (l.getD h (⟨#[]⟩, ⟨#[]⟩)).1) (fun h => .string (l.getD h (⟨#[]⟩, ⟨#[]⟩)).2) (fun h => badB (l.getD h (⟨#[]⟩, ⟨#[]⟩))) (fun _ w' => Below w.heap.size w w') (by omega) hba hf h (Below.refl _ _)).mono ?_
    rintro e w2 ⟨rfl, b2⟩
    have B2 := Lib.hid b2
    clear b2 hba hf h hget
    go_wp2
    go_ret
    exact ⟨by rw [E.out]; rfl, B2.out⟩
  · have E := Lib.hid (show l.any badB = true by
      rw [List.any_eq_true]
      exact ⟨_, List.mem_of_getElem? (hget m h1), h2⟩)
    go_enter Try.func41, Try.ntmps41
    go_wp2_with fail
    refine (HLabIdx2.yes w av n cv (fun h => .string (l.getD h (⟨#[]⟩, ⟨#[]⟩)).1) (fun h => .string (l.getD h (⟨#[]⟩, ⟨#[]⟩)).2) (fun h => badB (l.getD h (⟨#[]⟩, ⟨#[]⟩))) (fun _ w' => Below w.heap.size w w') (by omega) hba hf m h1 h2 h3 (Below.refl _ _)).mono ?_
    rintro e w2 ⟨rfl, b2⟩
    have B2 := Lib.hid b2
    clear b2 hba hf h1 h2 h3 hget
    go_wp2
    go_ret
    exact ⟨by rw [E.out]; rfl, B2.out⟩
end Go.Proofs.Ytlmnniajindlgaa.HLab
