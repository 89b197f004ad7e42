/- Escape: the program's and the reference's, walked. Conditions: sizes. -/
import Derived.Test.YtlmnniajindlgaaLab11
import Derived.Lib.BufferRead
namespace Go.Proofs.Ytlmnniajindlgaa.HLab
set_option linter.unusedVariables false
open Go.RowKit Go.Proofs.Ytlmnniajindlgaa.HMem Go.Proofs.Ytlmnniajindlgaa.HBld Go.Proofs.Ytlmnniajindlgaa.HApp

/-- Bytes that are escaped. -/
def esc1 (b : UInt8) : Bool := [(44 : UInt8), 61, 32, 92].any (· == b)
/-- A text whose bytes do not end a word. -/
def escL : List UInt8 → List UInt8
  | [] => []
  | b :: r => (if esc1 b then [92, b] else [b]) ++ escL r
theorem escL_append : ∀ (l m : List UInt8), escL (l ++ m) = escL l ++ escL m
  | [], m => rfl
  | b :: r, m => by rw [List.cons_append, escL, escL_append r m, escL, List.append_assoc]
theorem escL_take (l : List UInt8) (j : Nat) (b : UInt8) (h : l[j]? = some b) : escL (l.take (j + 1)) = escL (l.take j) ++ (if esc1 b then [92, b] else [b]) := by
  rw [List.take_add_one, h, escL_append]
  simp [escL]
theorem escL_length : ∀ (l : List UInt8), (escL l).length ≤ 2 * l.length
  | [] => Nat.le_refl _
  | b :: r => by
    have := escL_length r
    rw [escL, List.length_append, List.length_cons]
    split
    · simp; omega
    · simp; omega
theorem ib_any : ∀ (l : List UInt8) (c : UInt8), decide (0 ≤ Lib.indexByte l c) = l.any (· == c)
  | [], c => rfl
  | b :: l, c => by
    have ih := ib_any l c
    have hg := Lib.indexByte_ge l c
    rw [List.any_cons, ← ih, Lib.indexByte]
    cases hb : b == c with
    | true => simp
    | false =>
      by_cases h : Lib.indexByte l c = -1
      · simp [h]
      · have h' : (Lib.indexByte l c == -1) = false := by simp [h]
        simp only [h', Bool.false_or, Bool.false_eq_true, if_false, decide_eq_decide]
        omega
theorem has_eq (c : UInt8) : decide (0 ≤ Lib.indexByte [44, 61, 32, 92] c) = esc1 c := ib_any _ c
set_option maxHeartbeats 1000000 in
theorem has_any (c : UInt8) (w : World) : Calls Try.prog 49 #[.string ⟨#[44, 61, 32, 92]⟩, .int .u8 c.toNat] w fun e w' => e = .returned (.bool (esc1 c)) ∧ w = w' := by
  have K := Try.strings_IndexByte ⟨#[44, 61, 32, 92]⟩ c.toNat w
  have e0 : ((c.toNat : Int)).toNat.toUInt8 = c := by simp
  rw [e0] at K
  obtain ⟨z, hz⟩ : ∃ z, z = Lib.indexByte [44, 61, 32, 92] c := ⟨_, rfl⟩
  have E := Lib.hid (show decide (0 ≤ z) = esc1 c by rw [hz, has_eq])
  have K' := Lib.hid (show Calls Try.prog 56 #[.string ⟨#[44, 61, 32, 92]⟩, .int .u8 c.toNat] w fun e w' => e = .returned (.int .i64 z) ∧ w' = w by rw [hz]; exact K)
  clear K hz e0
  go_enter Try.func49, Try.ntmps49
  go_wp2_with fail
  refine K'.out.mono ?_
  rintro e w1 ⟨rfl, rfl⟩
  clear K'
  go_wp2
  go_ret
  exact ⟨by rw [← E.out]; rfl, rfl⟩
set_option maxHeartbeats 1000000 in
set_option maxRecDepth 20000 in
theorem rin_any (s : ByteArray) (c : UInt8) (w : World) (hs : s.size ≤ 140737488355328) : Calls Try.prog 50 #[.string s, .int .u8 c.toNat] w fun e w' => e = .returned (.bool (s.data.toList.any (· == c))) ∧ w = w' := by
  obtain ⟨z, hz⟩ : ∃ z, z = c.toNat := ⟨_, rfl⟩
  rw [← hz]
  have HZ := Lib.hid hz
  clear hz
  obtain ⟨r, hr⟩ : ∃ r, r = s.data.toList.any (· == c) := ⟨_, rfl⟩
  rw [← hr]
  have HR := Lib.hid hr
  clear hr
  go_enter Try.func50, Try.ntmps50
  go_wp2_with fail
  go_loopw [5] (fun x wr => ∃ k : Nat, k ≤ s.size ∧ x = .int .i64 k ∧ (∀ j (h : j < s.size), j < k → s[j] ≠ c) ∧ w = wr) (fun x _ => s.size - (intOf x).toNat)
  case atStart => exact ⟨0, Nat.zero_le _, rfl, fun j h hj => absurd hj (Nat.not_lt_zero j), rfl⟩
  case round =>
    obtain ⟨k, hk, rfl, hall, rfl⟩ := hrel
    have HALL := Lib.hid hall
    clear hall
    rcases Nat.lt_or_ge k s.size with hlt | hge
    · have hk1 : (k : Int) < s.size := by omega
      have HLT := Lib.hid hlt
      by_cases hc : s[k] = c
      · have t1 : ((s[k].toNat : Int) == (z : Int)) = true := by rw [HZ.out, hc]; simp
        have E := Lib.hid (show r = true by
          rw [HR.out, List.any_eq_true]
          exact ⟨s[k], List.mem_of_getElem? (byte_at s k hlt), by simp [hc]⟩)
        clear hc
        go_wp2
        go_ret
        exact ⟨by rw [E.out]; rfl, rfl⟩
      · have t1 : ((s[k].toNat : Int) == (z : Int)) = false := by
          rw [beq_eq_false_iff_ne, HZ.out]
          intro h
          exact hc (UInt8.toNat_inj.1 (by omega))
        have HC := Lib.hid hc
        clear hc
        go_wp2
        go_roundw
        case rel => exact ⟨k + 1, HLT.out, by go_num, fun j h hj => by
          by_cases e : j = k
          · subst e; exact HC.out
          · exact HALL.out j h (by omega), by first | rfl | trivial⟩
        case measure => have := HLT.out; simp [intOf]; omega
    · have hk1 : ¬ (k : Int) < s.size := by omega
      have E := Lib.hid (show r = false by
        rw [HR.out, List.any_eq_false]
        intro x hx
        obtain ⟨j, hj⟩ := List.mem_iff_getElem?.1 hx
        have hl := (List.getElem?_eq_some_iff.1 hj).1
        rw [Array.length_toList] at hl
        rw [byte_at s j hl] at hj
        cases hj
        simpa using HALL.out j hl (Nat.lt_of_lt_of_le hl hge))
      clear hge
      go_wp2
      go_ret
      exact ⟨by rw [E.out]; rfl, rfl⟩
set_option maxHeartbeats 4000000 in
set_option maxRecDepth 20000 in
theorem Escape_any (s : ByteArray) (w : World) (hs : s.size ≤ 1000000) : Calls Try.prog 33 #[.string s] w fun e w' => e = .returned (.string ⟨⟨escL s.data.toList⟩⟩) ∧ Below w.heap.size w w' := by
  go_enter Try.func33, Try.ntmps33
  go_wp2_with fail
  obtain ⟨b, hb⟩ : ∃ b, b = w.heap.size := ⟨_, rfl⟩
  obtain ⟨W, hW⟩ : ∃ W, W = w.alloc (.cells #[.pointer none, .slice none 0 0] 63) := ⟨_, rfl⟩
  have BW := Lib.hid (show Below b w W by rw [hW, hb]; exact (Below.refl _ _).alloc (Nat.le_refl _) _)
  have D0 := Lib.hid (show BldAt W b [b] [] by rw [hW, hb]; exact BldAt.new w)
  have HBW := Lib.hid hb
  rw [← hW, ← hb]
  clear hW hb
  go_loopw [7] (fun x wr => ∃ (k : Nat) (G : List Nat), k ≤ s.size ∧ x = .int .i64 k ∧ BldAt wr b G (escL (s.data.toList.take k)) ∧ Below b w wr) (fun x _ => s.size - (intOf x).toNat)
  case atStart => exact ⟨0, [b], Nat.zero_le _, rfl, by simpa [escL] using D0.out, BW.out⟩
  case round =>
    obtain ⟨k, G, hk, rfl, hd, bb⟩ := hrel
    have HD := Lib.hid hd
    have BB := Lib.hid bb
    have hbw : b ≤ wr.heap.size := by
      have := (HD.out.own.mem b (by obtain ⟨_, _, _, _, _, _, rfl⟩ := HD.out.ex; simp)).2
      omega
    clear hd bb
    rcases Nat.lt_or_ge k s.size with hlt | hge
    · have hk1 : (k : Int) < s.size := by omega
      have HLT := Lib.hid hlt
      obtain ⟨c, hby, hc⟩ : ∃ c, s.data.toList[k]? = some c ∧ s[k]'hlt = c := ⟨_, byte_at s k hlt, rfl⟩
      have HT := Lib.hid (escL_take _ _ _ hby)
      have hln : (escL (s.data.toList.take k)).length ≤ 2000000 := by
        have := escL_length (s.data.toList.take k)
        rw [List.length_take] at this
        omega
      have KH := Lib.hid (has_any c wr)
      have KB := Lib.hid (fun (u : World) (G' : List Nat) (l : List UInt8) (h : BldAt u b G' l) (hl : l.length ≤ 3000000) => byte_any h c (by omega))
      have KE := Lib.hid (byte_any HD.out 92 (by omega))
      have ec : (((s[k]'hlt).toNat : Nat) : Int) = (c.toNat : Int) := by rw [hc]
      clear hby hc
      cases hesc : esc1 c with
      | true =>
        rw [hesc] at KH HT
        clear hesc
        go_wp2_with fail
        refine KH.out.mono ?_
        rintro e w1 ⟨rfl, rfl⟩
        go_wp2_with fail
        refine KE.out.mono ?_
        rintro e w1 ⟨rfl, G1, h1, t1⟩
        have H1 := Lib.hid h1
        have hb1 : b ≤ w1.heap.size := by
          have := (H1.out.own.mem b (by obtain ⟨_, _, _, _, _, _, rfl⟩ := H1.out.ex; simp)).2
          omega
        have B1 := Lib.hid (t1.bel HD.out.own BB.out hbw)
        clear h1 t1
        go_wp2_with fail
        refine (KB.out _ _ _ H1.out (by simp; omega)).mono ?_
        rintro e w2 ⟨rfl, G2, h2, t2⟩
        have H2 := Lib.hid (show BldAt w2 b G2 (escL (s.data.toList.take (k + 1))) by rw [HT.out]; simpa using h2)
        have B2 := Lib.hid (t2.bel H1.out.own B1.out hb1)
        clear h2 t2 KB KE KH
        go_wp2
        go_roundw
        case rel => exact ⟨k + 1, G2, HLT.out, by go_num, H2.out, B2.out⟩
        case measure => have := HLT.out; simp [intOf]; omega
      | false =>
        rw [hesc] at KH HT
        clear hesc
        go_wp2_with fail
        refine KH.out.mono ?_
        rintro e w1 ⟨rfl, rfl⟩
        go_wp2_with fail
        refine (KB.out _ _ _ HD.out (by omega)).mono ?_
        rintro e w2 ⟨rfl, G2, h2, t2⟩
        have H2 := Lib.hid (show BldAt w2 b G2 (escL (s.data.toList.take (k + 1))) by rw [HT.out]; simpa using h2)
        have B2 := Lib.hid (t2.bel HD.out.own BB.out hbw)
        clear h2 t2 KB KE KH
        go_wp2
        go_roundw
        case rel => exact ⟨k + 1, G2, HLT.out, by go_num, H2.out, B2.out⟩
        case measure => have := HLT.out; simp [intOf]; omega
    · have hk1 : ¬ (k : Int) < s.size := by omega
      have EF : s.data.toList.take k = s.data.toList := List.take_of_length_le (by rw [list_size]; exact hge)
      rw [EF] at HD
      have KS := Lib.hid (string_any HD.out)
      clear hge EF
      go_wp2_with fail
      refine KS.out.mono ?_
      rintro e w9 ⟨rfl, b9⟩
      have BF := Lib.hid (BB.out.trans b9)
      clear b9
      go_wp2
      go_ret
      exact ⟨rfl, by rw [← HBW.out]; exact BF.out⟩
end Go.Proofs.Ytlmnniajindlgaa.HLab
