/- LabelSplits: any bytes are split, or not, and told, as the chapter says. Conditions: sizes. -/
import Derived.Test.YtlmnniajindlgaaLabKeys
import Derived.Test.YtlmnniajindlgaaBend10
namespace Go.Proofs.Ytlmnniajindlgaa.HLab
set_option linter.unusedVariables false
open Go.RowKit Go.Proofs.Ytlmnniajindlgaa.HMem Go.Proofs.Ytlmnniajindlgaa.HBld Go.Proofs.Ytlmnniajindlgaa.HApp

def MetAns (w : World) (key : ByteArray) (e : Ending) (w' : World) : Prop :=
  ((∃ n s, IsKey key n s ∧ e = .returned (.string n)) ∨ ((∀ n s, ¬ IsKey key n s) ∧ e = .returned (.string ⟨#[]⟩))) ∧ Below w.heap.size w w'
/-- What is told of a text is one thing. -/
structure Told (key n : ByteArray) (s : LL) (ok : Bool) (t m : ByteArray) : Prop where
  split : ∀ w e w', SplitAns w key e w' → ∃ a k c, e = .returned (.tuple #[.string n, .slice a k c, .bool ok]) ∧ LRow w' (.slice a k c) s ∧ Below w.heap.size w w'
  text : ∀ w e w', TextAns w key e w' → e = .returned (.string t) ∧ Below w.heap.size w w'
  met : ∀ w e w', MetAns w key e w' → e = .returned (.string m) ∧ Below w.heap.size w w'
theorem told_key {key n : ByteArray} {s : LL} (h : IsKey key n s) : Told key n s true ⟨⟨textL n s⟩⟩ n := by
  refine ⟨fun w e w' k => ?_, fun w e w' k => ?_, fun w e w' k => ?_⟩
  · rcases k with ⟨n', s', v, G, hk, rfl, hr, hG, b⟩ | ⟨hno, _, _⟩
    · obtain ⟨rfl, rfl⟩ := h.one hk
      have hr := LRow.ofRow hr
      obtain ⟨a, c, rfl, _⟩ := id hr
      exact ⟨_, _, _, rfl, hr, b⟩
    · exact absurd h (hno _ _)
  · rcases k with ⟨⟨n', s', hk, rfl⟩ | ⟨hno, _⟩, b⟩
    · obtain ⟨rfl, rfl⟩ := h.one hk
      exact ⟨rfl, b⟩
    · exact absurd h (hno _ _)
  · rcases k with ⟨⟨n', s', hk, rfl⟩ | ⟨hno, _⟩, b⟩
    · obtain ⟨rfl, rfl⟩ := h.one hk
      exact ⟨rfl, b⟩
    · exact absurd h (hno _ _)
theorem told_none {key : ByteArray} (h : ∀ n s, ¬ IsKey key n s) : Told key ⟨#[]⟩ [] false ⟨#[]⟩ ⟨#[]⟩ := by
  refine ⟨fun w e w' k => ?_, fun w e w' k => ?_, fun w e w' k => ?_⟩
  · rcases k with ⟨n', s', v, G, hk, _⟩ | ⟨hno, rfl, b⟩
    · exact absurd hk (h _ _)
    · exact ⟨_, _, _, rfl, LRow.nil _, b⟩
  · rcases k with ⟨⟨n', s', hk, _⟩ | ⟨hno, rfl⟩, b⟩
    · exact absurd hk (h _ _)
    · exact ⟨rfl, b⟩
  · rcases k with ⟨⟨n', s', hk, _⟩ | ⟨hno, rfl⟩, b⟩
    · exact absurd hk (h _ _)
    · exact ⟨rfl, b⟩
theorem told_any (key : ByteArray) : ∃ n s ok t m, Told key n s ok t m := by
  by_cases h : ∃ n s, IsKey key n s
  · obtain ⟨n, s, h⟩ := h
    exact ⟨_, _, _, _, _, told_key h⟩
  · exact ⟨_, _, _, _, _, told_none fun n s k => h ⟨n, s, k⟩⟩
theorem keyL_size (n : ByteArray) (l : LL) : (keyL n l).1.size ≤ 2048 := by
  unfold keyL
  split
  · exact Nat.zero_le _
  · split
    · exact Nat.zero_le _
    · split
      · exact Nat.zero_le _
      · rename_i h
        show (encL n _).length ≤ 2048
        omega
theorem fewL_szs (ls : List (List UInt8)) : Szs (fewL ls) := fun x hx => by
  have := fewL_sz ls x hx
  exact ⟨by omega, by omega⟩
set_option maxHeartbeats 4000000 in
set_option maxRecDepth 20000 in
theorem LabelSplits_any (w : World) (v x : Value) (own : Bool) (s : ByteArray) (at_ by_ : Int) (ls : List (List UInt8)) (xs : List UInt8) (hv : WRow w v ls) (hx : URow w x xs) (hs : s.size ≤ 140737488355328)
    (ha : -9223372036854775808 ≤ at_ ∧ at_ ≤ 9223372036854775807) (hb : 0 ≤ by_ ∧ by_ ≤ 255) :
    Calls Try.prog 3 #[v, x, .string s, .bool own, .int .i64 at_, .int .u8 by_] w fun e w' => e = .returned (.bool true) ∧ Below w.heap.size w w' := by
  have HV := Lib.hid hv
  have HX := Lib.hid hx
  have HS := Lib.hid hs
  have HA := Lib.hid ha
  have HB := Lib.hid hb
  clear hv hx hs ha hb
  go_enter Try.func3, Try.ntmps3
  go_wp2_with fail
  refine (examples_any w).mono ?_
  rintro e w1 ⟨rfl, b1⟩
  have B1 := Lib.hid b1
  clear b1
  cases own
  case' true =>
    go_wp2_with fail
    refine (word_any w1 x xs (HX.out.mono B1.out)).mono ?_
    rintro e w2 ⟨rfl, b2⟩
    have B2 := Lib.hid (B1.out.trans (b2.mono B1.out.size))
    clear b2
    go_wp2_with fail
    refine (few_own w2 v (.slice none 0 0) ls (HV.out.mono B2.out)).mono ?_
    rintro e w3 ⟨a, rfl, lr, b3⟩
    obtain ⟨a, c, rfl, _⟩ := id lr
    have LR := Lib.hid lr
    have B3 := Lib.hid (B2.out.trans (b3.mono B2.out.size))
    clear b3 lr B1 B2
    go_wp2_with fail
    refine (rKey_any _ _ (fewL ls) (wordB xs) LR.out (by rw [fewL_length]; omega) (fewL_szs ls) (by have := wordB_size xs; omega)).mono ?_
    rintro e w4 ⟨rfl, b4⟩
    have B4 := Lib.hid (B3.out.trans (b4.mono B3.out.size))
    clear b4 LR B3
    obtain ⟨k, hk⟩ : ∃ k, k = (keyL (wordB xs) (fewL ls)).1 := ⟨_, rfl⟩
    have HK := Lib.hid (show k.size ≤ 2048 by rw [hk]; exact keyL_size _ _)
    rw [← hk]
    clear hk
    go_wp2_with fail
    refine (HBend.Bend_any k at_ by_ _ HA.out HB.out (by have := HK.out; omega)).mono ?_
    rintro e w5 ⟨rfl, b5⟩
    have B1 := Lib.hid (B4.out.trans (b5.mono B4.out.size))
    clear b5 B4 HS

    obtain ⟨S, hs⟩ : ∃ s, s = HBend.bendS k at_ by_ := ⟨_, rfl⟩
    rw [← hs]
    have HS := Lib.hid (show S.size ≤ 140737488355328 by rw [hs, HBend.bendS_size]; have := HK.out; omega)
    clear hs HK
  case' false =>
    obtain ⟨S, hs⟩ : ∃ S, S = s := ⟨_, rfl⟩
    rw [← hs]
    rw [← hs] at HS
    clear hs
  all_goals
    obtain ⟨n, l, ok, t, m, told⟩ := told_any S
    have TD := Lib.hid told
    clear told
    go_wp2_with fail
    refine (Split_any _ S HS.out).mono ?_
    intro e w4 h
    obtain ⟨a4, n4, c4, rfl, r4, b4⟩ := TD.out.split _ _ _ h
    have C4 := Lib.hid (B1.out.trans (b4.mono B1.out.size))
    have R4 := Lib.hid r4
    clear r4 b4 h B1
    go_wp2_with fail
    refine (rSplit_any _ S HS.out).mono ?_
    intro e w5 h
    obtain ⟨a5, n5, c5, rfl, r5, b5⟩ := TD.out.split _ _ _ h
    have C5 := Lib.hid (C4.out.trans (b5.mono C4.out.size))
    have R4' := Lib.hid (R4.out.mono b5)
    have R5 := Lib.hid r5
    clear r5 b5 h R4 C4
    go_wp2_with fail
    refine (same_any _ _ _ _ _ R4'.out R5.out).mono ?_
    rintro e w6 ⟨rfl, b6⟩
    rw [decide_eq_true rfl]
    have C6 := Lib.hid (C5.out.trans (b6.mono C5.out.size))
    clear b6 C5 R4' R5
    go_wp2_with fail
    refine (Text_any _ S HS.out).mono ?_
    intro e w7 h
    obtain ⟨rfl, b7⟩ := TD.out.text _ _ _ h
    have C7 := Lib.hid (C6.out.trans (b7.mono C6.out.size))
    clear b7 h C6
    go_wp2_with fail
    refine (rText_any _ S HS.out).mono ?_
    intro e w8 h
    obtain ⟨rfl, b8⟩ := TD.out.text _ _ _ h
    have C8 := Lib.hid (C7.out.trans (b8.mono C7.out.size))
    clear b8 h C7
    go_wp2_with fail
    refine (Metric_any _ S HS.out).mono ?_
    intro e w9 h
    obtain ⟨rfl, b9⟩ := TD.out.met _ _ _ h
    have C9 := Lib.hid (C8.out.trans (b9.mono C8.out.size))
    clear b9 h C8
    go_wp2_with fail
    refine (rMetric_any _ S HS.out).mono ?_
    intro e w10 h
    obtain ⟨rfl, b10⟩ := TD.out.met _ _ _ h
    have C10 := Lib.hid (C9.out.trans (b10.mono C9.out.size))
    clear b10 h C9
    go_wp2
    go_ret
    exact ⟨by simp, C10.out⟩
end Go.Proofs.Ytlmnniajindlgaa.HLab
