/- LabelKeys: any labels are sorted, searched, and a key, or none, as the chapter says. Conditions: sizes. -/
import Derived.Test.YtlmnniajindlgaaLabEx
import Derived.Test.YtlmnniajindlgaaLabGet
namespace Go.Proofs.Ytlmnniajindlgaa.HLab
set_option linter.unusedVariables false
open Go.RowKit Go.Proofs.Ytlmnniajindlgaa.HMem Go.Proofs.Ytlmnniajindlgaa.HBld Go.Proofs.Ytlmnniajindlgaa.HApp

def sortD (l : LL) : LL := (sortL l).getD []
def sortN (l : LL) : Int := match sortL l with | none => 11 | some _ => 0
theorem sortN_bounds (l : LL) : 0 ≤ sortN l ∧ sortN l ≤ 11 := by unfold sortN; split <;> omega
theorem SortAns.row {w : World} {l : LL} {e : Ending} {w' : World} (h : SortAns w l e w') : ∃ a n c, e = .returned (.tuple #[.slice a n c, .int .i64 (sortN l)]) ∧ LRow w' (.slice a n c) (sortD l) ∧ Below w.heap.size w w' := by
  rcases h with ⟨h1, h2, h3⟩ | ⟨s, v, G, h1, h2, h3, h4, h5⟩
  · exact ⟨none, 0, 0, by rw [h2]; unfold sortN; rw [h1], by unfold sortD; rw [h1]; exact LRow.nil _, h3⟩
  · have hr := LRow.ofRow h3
    obtain ⟨a, c, rfl, _⟩ := id hr
    exact ⟨a, _, c, by rw [h2]; unfold sortN; rw [h1], by unfold sortD; rw [h1]; exact hr, h5⟩
theorem keyL_bounds (n : ByteArray) (l : LL) : 0 ≤ (keyL n l).2 ∧ (keyL n l).2 ≤ 11 := by
  unfold keyL
  split
  · simp
  · split
    · simp
    · split <;> simp
theorem getV_form (l : LL) (c : ByteArray) : ∃ p b, getV l c = .tuple #[.string p, .bool b] := by
  unfold getV
  split
  · exact ⟨_, _, rfl⟩
  · exact ⟨_, _, rfl⟩
theorem few_both (w : World) (v u : Value) (own : Bool) (ls : List (List UInt8)) (raw : LL) (hv : WRow w v ls) (hu : LRow w u raw) (hl : raw.length ≤ 4398046511000) (hz : Szs raw) :
    Calls Try.prog 12 #[v, u, .bool own] w fun e w' => ∃ a n c l, e = .returned (.slice a n c) ∧ LRow w' (.slice a n c) l ∧ l.length ≤ 4398046511000 ∧ Szs l ∧ Below w.heap.size w w' := by
  cases own with
  | false =>
    refine (few_raw w v u).mono ?_
    rintro e w' ⟨rfl, b⟩
    obtain ⟨a, c, rfl, _⟩ := id hu
    exact ⟨_, _, _, raw, rfl, hu.mono b, hl, hz, b⟩
  | true =>
    refine (few_own w v u ls hv).mono ?_
    rintro e w' ⟨a, rfl, hr, b⟩
    obtain ⟨a, c, rfl, _⟩ := id hr
    refine ⟨_, _, _, fewL ls, rfl, hr, by rw [fewL_length]; omega, fun x hx => ?_, b⟩
    have := fewL_sz ls x hx
    exact ⟨by omega, by omega⟩
theorem wordB_size (l : List UInt8) : (wordB l).size ≤ 13 := wordL_length l
set_option maxHeartbeats 4000000 in
set_option maxRecDepth 20000 in
theorem LabelKeys_any (w : World) (v u x : Value) (own near : Bool) (name : ByteArray) (ls : List (List UInt8)) (raw : LL) (xs : List UInt8) (hv : WRow w v ls) (hu : LRow w u raw) (hl : raw.length ≤ 4398046511000) (hz : Szs raw) (hn : name.size ≤ 140737488355328) (hx : URow w x xs) :
    Calls Try.prog 6 #[v, u, .bool own, .string name, x, .bool near] w fun e w' => e = .returned (.bool true) ∧ Below w.heap.size w w' := by
  have HV := Lib.hid hv
  have HU := Lib.hid hu
  have HX := Lib.hid hx
  have HN := Lib.hid hn
  have HL := Lib.hid hl
  clear hv hu hx hn hl
  go_enter Try.func6, Try.ntmps6
  go_wp2_with fail
  refine (examples_any w).mono ?_
  rintro e w1 ⟨rfl, b1⟩
  have B1 := Lib.hid b1
  clear b1
  go_wp2_with fail
  refine (few_both w1 v u own ls raw (HV.out.mono B1.out) (HU.out.mono B1.out) HL.out hz).mono ?_
  rintro e w2 ⟨a, n, c, l, rfl, lr, hl2, hz2, b2⟩
  have LR := Lib.hid lr
  have HL2 := Lib.hid hl2
  have HZ2 := Lib.hid hz2
  have B2 := Lib.hid (B1.out.trans (b2.mono B1.out.size))
  clear b2 lr hl2 hz2 hz
  have C2 := Lib.hid (Below.refl w2.heap.size w2)
  cases near
  case' true =>
    go_wp2_with fail
    refine (word_any w2 x xs (HX.out.mono B2.out)).mono ?_
    rintro e w3 ⟨rfl, b3⟩
    clear HN C2
    obtain ⟨N, hname⟩ : ∃ n, n = wordB xs := ⟨_, rfl⟩
    rw [← hname]
    have HN := Lib.hid (show N.size ≤ 140737488355328 by have := wordB_size xs; rw [hname]; omega)
    have C2 := Lib.hid b3
    clear b3 hname
  case' false =>
    obtain ⟨N, hname⟩ : ∃ n, n = name := ⟨_, rfl⟩
    rw [← hname]
    rw [← hname] at HN
    clear hname
  all_goals
    go_wp2_with fail
    refine (Sort_any _ _ l (LR.out.mono C2.out) HL2.out).mono ?_
    intro e w4 h
    obtain ⟨a4, n4, c4, rfl, r4, b4⟩ := h.row
    have C4 := Lib.hid (C2.out.trans (b4.mono C2.out.size))
    have R4 := Lib.hid r4
    clear r4 b4 C2 h
    obtain ⟨q, hq⟩ : ∃ q, q = sortN l := ⟨_, rfl⟩
    have hq1 := sortN_bounds l
    rw [← hq] at hq1 ⊢
    have HQ := Lib.hid hq
    clear hq
    go_wp2_with fail
    refine (rSort_any _ _ l (LR.out.mono C4.out) HL2.out).mono ?_
    intro e w5 h
    obtain ⟨a5, n5, c5, rfl, r5, b5⟩ := h.row
    have C5 := Lib.hid (C4.out.trans (b5.mono C4.out.size))
    have R4' := Lib.hid (R4.out.mono b5)
    have R5 := Lib.hid r5
    clear r5 b5 C4 h R4
    rw [← HQ.out]
    go_wp2_with fail
    refine (same_any _ _ _ _ _ R4'.out R5.out).mono ?_
    rintro e w6 ⟨rfl, b6⟩
    rw [decide_eq_true rfl]
    have C6 := Lib.hid (C5.out.trans (b6.mono C5.out.size))
    clear b6 C5 R4' R5
    go_wp2_with fail
    refine (Key_any _ _ l N (LR.out.mono C6.out) HL2.out HZ2.out HN.out).mono ?_
    rintro e w7 ⟨rfl, b7⟩
    have C7 := Lib.hid (C6.out.trans (b7.mono C6.out.size))
    clear b7 C6
    obtain ⟨k, hk⟩ : ∃ k, k = (keyL N l).1 := ⟨_, rfl⟩
    obtain ⟨m, hm⟩ : ∃ m, m = (keyL N l).2 := ⟨_, rfl⟩
    have hm1 := keyL_bounds N l
    rw [← hm] at hm1
    rw [← hk, ← hm]
    have HK := Lib.hid hk
    have HM := Lib.hid hm
    clear hk hm
    go_wp2_with fail
    refine (rKey_any _ _ l N (LR.out.mono C7.out) HL2.out HZ2.out HN.out).mono ?_
    rintro e w8 ⟨rfl, b8⟩
    have C8 := Lib.hid (C7.out.trans (b8.mono C7.out.size))
    clear b8 C7
    rw [← HK.out, ← HM.out]
    go_wp2_with fail
    refine (Get_any _ _ l N (LR.out.mono C8.out) HL2.out).mono ?_
    rintro e w9 ⟨rfl, b9⟩
    have C9 := Lib.hid (C8.out.trans (b9.mono C8.out.size))
    clear b9 C8
    obtain ⟨p, b, hp⟩ := getV_form l N
    rw [hp]
    have HP := Lib.hid hp
    clear hp
    go_wp2_with fail
    refine (rGet_any _ _ l N (LR.out.mono C9.out)).mono ?_
    rintro e w10 ⟨rfl, b10⟩
    have C10 := Lib.hid (C9.out.trans (b10.mono C9.out.size))
    clear b10 C9
    rw [HP.out]
    go_wp2
    go_ret
    exact ⟨by simp, B2.out.trans (C10.out.mono B2.out.size)⟩
end Go.Proofs.Ytlmnniajindlgaa.HLab
