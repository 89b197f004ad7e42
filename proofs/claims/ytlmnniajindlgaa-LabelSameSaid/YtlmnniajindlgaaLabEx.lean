/- Labels: the chapter's examples, walked. -/
import Derived.Test.YtlmnniajindlgaaLab16
namespace Go.Proofs.Ytlmnniajindlgaa.HLab
set_option linter.unusedVariables false
open Go.RowKit Go.Proofs.Ytlmnniajindlgaa.HMem Go.Proofs.Ytlmnniajindlgaa.HBld Go.Proofs.Ytlmnniajindlgaa.HApp

def sa : ByteArray := ⟨#[97]⟩
def sb : ByteArray := ⟨#[98]⟩
def sm : ByteArray := ⟨#[109]⟩
def sx : ByteArray := ⟨#[120]⟩
def s1 : ByteArray := ⟨#[49]⟩
def s2 : ByteArray := ⟨#[50]⟩
def kx : ByteArray := ⟨#[1, 109, 2, 1, 97, 1, 50, 1, 98, 1, 49]⟩
theorem ex_key1 : keyL ⟨#[97]⟩ [] = (⟨#[1, 97, 0]⟩, 0) := by decide +kernel
theorem ex_key2 : keyL ⟨#[97]⟩ [(⟨#[120]⟩, ⟨#[49]⟩), (⟨#[120]⟩, ⟨#[50]⟩)] = (⟨#[]⟩, 11) := by decide +kernel
theorem ex_key3 : keyL ⟨#[109]⟩ [(⟨#[98]⟩, ⟨#[49]⟩), (⟨#[97]⟩, ⟨#[50]⟩)] = (kx, 0) := by decide +kernel
theorem ex_sort : sortL [(⟨#[98]⟩, ⟨#[49]⟩), (⟨#[97]⟩, ⟨#[50]⟩)] = some [(⟨#[97]⟩, ⟨#[50]⟩), (⟨#[98]⟩, ⟨#[49]⟩)] := by decide +kernel
theorem ex_is : IsKey kx ⟨#[109]⟩ [(⟨#[97]⟩, ⟨#[50]⟩), (⟨#[98]⟩, ⟨#[49]⟩)] := by
  obtain ⟨s, hs, k⟩ := IsKey.of ex_key3
  rw [ex_sort] at hs
  cases hs
  exact k
theorem ex_no : ∀ n s, ¬ IsKey ⟨#[122, 122]⟩ n s := nokey (by decide +kernel)
theorem ex_text : (⟨⟨textL ⟨#[109]⟩ [(⟨#[97]⟩, ⟨#[50]⟩), (⟨#[98]⟩, ⟨#[49]⟩)]⟩⟩ : ByteArray) = ⟨#[109, 44, 97, 61, 50, 44, 98, 61, 49]⟩ := by decide +kernel
theorem LRow.nil (w : World) : LRow w (.slice none 0 0) [] := ⟨none, 0, rfl, Nat.le_refl _, Nat.zero_le _, .inl rfl⟩
theorem LRow.two (w : World) (a b c d : ByteArray) : LRow (w.alloc (.cells #[.string a, .string b, .string c, .string d] 42)) (.slice (some ⟨w.heap.size, 0, none⟩) 2 2) [(a, b), (c, d)] := by
  refine ⟨_, 2, rfl, Nat.le_refl _, by unfold maxLen; omega, .inr ⟨_, rfl, fun k x hx => ?_⟩⟩
  match k, hx with
  | 0, hx => cases hx; exact ⟨new_cell _ _ _ 0, new_cell _ _ _ 1⟩
  | 1, hx => cases hx; exact ⟨new_cell _ _ _ 2, new_cell _ _ _ 3⟩
theorem szs_two (a b c d : ByteArray) (h : a.size ≤ 13 ∧ b.size ≤ 13 ∧ c.size ≤ 13 ∧ d.size ≤ 13) : Szs [(a, b), (c, d)] := by
  intro x hx
  simp at hx
  rcases hx with rfl | rfl
  · exact ⟨by show a.size ≤ _; omega, by show b.size ≤ _; omega⟩
  · exact ⟨by show c.size ≤ _; omega, by show d.size ≤ _; omega⟩
theorem kx_size : kx.size = 11 := rfl
set_option maxHeartbeats 8000000 in
set_option maxRecDepth 20000 in
theorem examples_any (w : World) : Calls Try.prog 9 #[] w fun e w' => e = .returned (.bool true) ∧ Below w.heap.size w w' := by
  go_enter Try.func9, Try.ntmps9
  go_wp2_with fail
  have K := Key_any w (.slice none 0 0) [] ⟨#[97]⟩ (LRow.nil w) (by decide) (fun x hx => by cases hx) (by decide)
  rw [ex_key1] at K
  refine K.mono ?_
  rintro e w1 ⟨rfl, b1⟩
  have B1 := Lib.hid b1
  clear b1 K
  go_wp2_with fail
  have K := Key_any _ _ _ ⟨#[97]⟩ (LRow.two w1 ⟨#[120]⟩ ⟨#[49]⟩ ⟨#[120]⟩ ⟨#[50]⟩) (by decide) (szs_two _ _ _ _ (by decide)) (by decide)
  rw [ex_key2] at K
  refine K.mono ?_
  rintro e w2 ⟨rfl, b2⟩
  have B2 := Lib.hid (B1.out.trans (((Below.refl _ _).alloc (Nat.le_refl _) _).trans (b2.mono (by simp)) |>.mono B1.out.size))
  clear b2 K
  go_wp2_with fail
  have K := Key_any _ _ _ ⟨#[109]⟩ (LRow.two w2 ⟨#[98]⟩ ⟨#[49]⟩ ⟨#[97]⟩ ⟨#[50]⟩) (by decide) (szs_two _ _ _ _ (by decide)) (by decide)
  rw [ex_key3] at K
  refine K.mono ?_
  rintro e w3 ⟨rfl, b3⟩
  have B3 := Lib.hid (B2.out.trans (((Below.refl _ _).alloc (Nat.le_refl _) _).trans (b3.mono (by simp)) |>.mono B2.out.size))
  clear b3 K
  go_wp2_with fail
  refine (Split_any w3 kx (by rw [kx_size]; omega)).mono ?_
  rintro e w4 (⟨n, s, v, G, ik, rfl, row, hG, b4⟩ | ⟨hno, rfl, b4⟩)
  rotate_left
  · exact absurd ex_is (hno _ _)
  obtain ⟨rfl, rfl⟩ := ik.one ex_is
  have B4 := Lib.hid (B3.out.trans (b4.mono B3.out.size))
  obtain ⟨g, off, cap', e1, _, _, _, hc⟩ := row.there (by decide)
  have c0 := (hc 0 (.string ⟨#[97]⟩) rfl).1
  have e1' : v = .slice (some ⟨g, off, none⟩) 2 cap' := e1
  subst e1'
  rw [Nat.add_zero] at c0
  clear b4 ik row hG hc e1
  go_wp2_with fail
  refine (Text_any w4 kx (by rw [kx_size]; omega)).mono ?_
  rintro e w5 ⟨⟨n, s, ik, rfl⟩ | ⟨hno, rfl⟩, b5⟩
  rotate_left
  · exact absurd ex_is (hno _ _)
  obtain ⟨rfl, rfl⟩ := ik.one ex_is
  have B5 := Lib.hid (B4.out.trans (b5.mono B4.out.size))
  rw [ex_text]
  clear b5 ik c0
  go_wp2_with fail
  refine (Metric_any w5 kx (by rw [kx_size]; omega)).mono ?_
  rintro e w6 ⟨⟨n, s, ik, rfl⟩ | ⟨hno, rfl⟩, b6⟩
  rotate_left
  · exact absurd ex_is (hno _ _)
  obtain ⟨rfl, rfl⟩ := ik.one ex_is
  have B6 := Lib.hid (B5.out.trans (b6.mono B5.out.size))
  clear b6 ik
  go_wp2_with fail
  refine (Text_any w6 ⟨#[122, 122]⟩ (by decide)).mono ?_
  rintro e w7 ⟨⟨n, s, ik, rfl⟩ | ⟨hno, rfl⟩, b7⟩
  · exact absurd ik (ex_no _ _)
  have B7 := Lib.hid (B6.out.trans (b7.mono B6.out.size))
  clear b7 hno
  go_wp2
  go_ret
  exact ⟨rfl, B7.out⟩
end Go.Proofs.Ytlmnniajindlgaa.HLab
