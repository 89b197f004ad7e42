/- The walk of the chapter's examples. -/
import Derived.Test.YtjlhpnnkhiojfaaSlotUse
import Derived.Test.YtjlhpnnkhiojfaaQTail
namespace Go.Proofs.Ytjlhpnnkhiojfaa.HSlot
set_option linter.unusedVariables false
open Go.RowKit Go.Proofs.Ytjlhpnnkhiojfaa.Print Go.Proofs.Ytjlhpnnkhiojfaa.HSip Go.Proofs.YtjlhpnnkhiojfaaW.PrintWords Go.Proofs.YtjlhpnnkhiojfaaW.PrintLast Go.Proofs.YtjlhpnnkhiojfaaW.PrintMore

abbrev sa : ByteArray := ⟨#[97]⟩
abbrev sb : ByteArray := ⟨#[98]⟩
abbrev sc : ByteArray := ⟨#[99]⟩
def kk0 : Nat → ByteArray := fun _ => E0
def kk1 : Nat → ByteArray := up kk0 0 sa
def kk2 : Nat → ByteArray := up kk1 1 sb
def kk3 : Nat → ByteArray := up kk2 0 E0
def kk4 : Nat → ByteArray := up kk3 0 sc
theorem kk_cases (i : Nat) : i = 0 ∨ i = 1 ∨ 2 ≤ i := by omega
theorem kk1_at (i : Nat) : kk1 i = if i = 0 then sa else E0 := rfl
theorem kk2_at (i : Nat) : kk2 i = if i = 1 then sb else if i = 0 then sa else E0 := rfl
theorem kk3_at (i : Nat) : kk3 i = if i = 0 then E0 else if i = 1 then sb else if i = 0 then sa else E0 := rfl
theorem kk4_at (i : Nat) : kk4 i = if i = 0 then sc else if i = 0 then E0 else if i = 1 then sb else if i = 0 then sa else E0 := rfl
theorem ne_ab : sa ≠ sb := by decide
theorem ne_ac : sa ≠ sc := by decide
theorem ne_bc : sb ≠ sc := by decide
theorem ne_a : sa ≠ E0 := by decide
theorem ne_b : sb ≠ E0 := by decide
theorem ne_c : sc ≠ E0 := by decide
theorem ok_a : ¬ badKey sa := by decide
theorem ok_b : ¬ badKey sb := by decide
theorem ok_c : ¬ badKey sc := by decide
theorem kk4_cn : cn (has kk4) 256 = 2 := by
  rw [cn_tail (has kk4) 2 (fun i hi => by unfold has; rw [kk4_at, if_neg (by omega), if_neg (by omega), if_neg (by omega), if_neg (by omega)]; simp) 256 (by omega)]
  decide
theorem kk4_sl : sl kk4 2 = [0, 1] := by decide

set_option maxRecDepth 20000 in
set_option maxHeartbeats 4000000 in
theorem examples_any (w : World) :
    Calls Try.prog 7 #[] w fun e w' => e = .returned (.bool true) ∧ Below w.heap.size w w' := by
  go_enter Try.func7, Try.ntmps7
  go_wp2_with fail
  refine (New_no _ 0 (.inl (by omega))).mono ?_
  rintro e w0 ⟨rfl, rfl⟩
  go_wp2_with fail
  refine (u_new _ 2 (by omega)).mono ?_
  rintro e w1 ⟨rfl, s1, b1⟩
  obtain ⟨b, hb⟩ : ∃ b, b = w0.heap.size := ⟨_, rfl⟩
  rw [← hb] at s1 ⊢
  have S1 := Lib.hid s1
  have HB := Lib.hid hb
  have B1 := Lib.hid b1
  clear s1 b1 hb
  go_wp2_with fail
  refine (u_add_new S1.out 0 ok_a (fun i hi => absurd rfl hi) (by omega) rfl (by omega)).mono ?_
  rintro e w2 ⟨rfl, s2, u2⟩
  have S2 := Lib.hid (show SK w2 b 2 kk1 from s2)
  have B2 := Lib.hid (u2.bel B1.out (by rw [HB.out]; exact Nat.le_refl _) S1.out.lt)
  clear s2 u2
  go_wp2_with fail
  refine (u_add_new S2.out 1 ok_b (fun i hi => by
    rw [kk1_at] at hi ⊢
    by_cases e : i = 0
    · rw [if_pos e]; exact ne_ab
    · rw [if_neg e] at hi; exact absurd rfl hi) (by omega) rfl (fun j hj => by
      have : j = 0 := by omega
      rw [this]; exact ne_a)).mono ?_
  rintro e w3 ⟨rfl, s3, u3⟩
  have S3 := Lib.hid (show SK w3 b 2 kk2 from s3)
  have B3 := Lib.hid (u3.bel B2.out (by rw [HB.out]; exact Nat.le_refl _) S2.out.lt)
  clear s3 u3
  have full2 : ∀ s : Nat, (s : Int) < 2 → kk2 s ≠ E0 := fun s hs => by
    rcases kk_cases s with rfl | rfl | h
    · exact ne_a
    · exact ne_b
    · omega
  go_wp2_with fail
  refine (u_add_yes_full S3.out 0 ok_a rfl ne_a full2).mono ?_
  rintro e w4 ⟨rfl, s4, u4⟩
  have S4 := Lib.hid s4
  have B4 := Lib.hid (u4.bel B3.out (by rw [HB.out]; exact Nat.le_refl _) S3.out.lt)
  clear s4 u4
  go_wp2_with fail
  refine (u_add_full S4.out ok_c (fun i hi => by
    rw [kk2_at] at hi ⊢
    by_cases e : i = 1
    · rw [if_pos e]; exact ne_bc
    · rw [if_neg e] at hi ⊢
      by_cases e0 : i = 0
      · rw [if_pos e0]; exact ne_ac
      · rw [if_neg e0] at hi; exact absurd rfl hi) full2).mono ?_
  rintro e w5 ⟨rfl, s5, u5⟩
  have S5 := Lib.hid s5
  have B5 := Lib.hid (u5.bel B4.out (by rw [HB.out]; exact Nat.le_refl _) S4.out.lt)
  clear s5 u5 full2
  go_wp2_with fail
  refine (u_drop_yes S5.out 0 rfl ne_a (by decide)).mono ?_
  rintro e w6 ⟨rfl, s6, u6⟩
  have S6 := Lib.hid (show SK w6 b 2 kk3 from s6)
  have B6 := Lib.hid (u6.bel B5.out (by rw [HB.out]; exact Nat.le_refl _) S5.out.lt)
  clear s6 u6
  go_wp2_with fail
  refine (u_add_new S6.out 0 ok_c (fun i hi => by
    rw [kk3_at] at hi ⊢
    by_cases e0 : i = 0
    · rw [if_pos e0] at hi; exact absurd rfl hi
    · rw [if_neg e0] at hi ⊢
      by_cases e : i = 1
      · rw [if_pos e]; exact ne_bc
      · rw [if_neg e, if_neg e0] at hi; exact absurd rfl hi) (by omega) rfl (by omega)).mono ?_
  rintro e w7 ⟨rfl, s7, u7⟩
  have S7 := Lib.hid (show SK w7 b 2 kk4 from s7)
  have B7 := Lib.hid (u7.bel B6.out (by rw [HB.out]; exact Nat.le_refl _) S6.out.lt)
  clear s7 u7
  go_wp2_with fail
  have ek : keyK kk4 2 0 = (sc, true) := by decide
  have C := u_key S7.out 0
  rw [ek] at C
  refine C.mono ?_
  rintro e w8 ⟨rfl, b8⟩
  have S8 := Lib.hid (S7.out.mono b8)
  have B8 := Lib.hid (B7.out.trans (b8.mono B7.out.size))
  clear b8 C ek
  go_wp2_with fail
  have L := u_len S8.out
  rw [kk4_cn] at L
  refine L.mono ?_
  rintro e w9 ⟨rfl, b9⟩
  have S9 := Lib.hid (S8.out.mono b9)
  have B9 := Lib.hid (B8.out.trans (b9.mono B8.out.size))
  clear b9 L
  go_wp2_with fail
  refine (u_room S9.out).mono ?_
  rintro e w10 ⟨rfl, b10⟩
  have S10 := Lib.hid (S9.out.mono b10)
  have B10 := Lib.hid (B9.out.trans (b10.mono B9.out.size))
  clear b10
  go_wp2_with fail
  have SL := u_slots S10.out
  rw [show (2 : Int).toNat = 2 from rfl, kk4_sl] at SL
  refine SL.mono ?_
  rintro e w11 ⟨v, rfl, own, b11⟩
  have B11 := Lib.hid (B10.out.trans (b11.mono B10.out.size))
  have hv : ∃ a c, v = .slice a 2 c := by
    rcases own.2 with ⟨_, h0⟩ | ⟨g', cap', cur, hv, _⟩
    · simp at h0
    · exact ⟨_, _, hv⟩
  obtain ⟨a, c, rfl⟩ := hv
  clear own b11 SL
  go_wp2
  go_ret
  exact ⟨rfl, B11.out⟩

end Go.Proofs.Ytjlhpnnkhiojfaa.HSlot
