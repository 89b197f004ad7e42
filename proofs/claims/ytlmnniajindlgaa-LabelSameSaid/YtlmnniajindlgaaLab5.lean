/- Names: may a text be one? The program's and the reference's, walked. Conditions: sizes. -/
import Derived.Test.YtlmnniajindlgaaLab2
namespace Go.Proofs.Ytlmnniajindlgaa.HLab
set_option linter.unusedVariables false
open Go.RowKit Go.Proofs.Ytlmnniajindlgaa.HMem

def ctl (c : UInt8) : Bool := decide (c.toNat < 32) || decide (c.toNat = 127)
theorem control_any (c : UInt8) (w : World) : Calls Try.prog 59 #[.int .u8 c.toNat] w fun e w' => e = .returned (.bool (ctl c)) ∧ w = w' := by
  obtain ⟨z, hz⟩ : ∃ z, z = c.toNat := ⟨_, rfl⟩
  rw [← hz]
  by_cases h1 : z < 32
  · have t1 : decide ((z : Int) < 32) = true := by simp; omega
    have E := Lib.hid (show ctl c = true by unfold ctl; rw [← hz, decide_eq_true h1]; rfl)
    clear h1 hz
    go_enter Try.func59, Try.ntmps59
    go_wp2
    go_ret
    exact ⟨by rw [E.out]; rfl, rfl⟩
  · have t1 : decide ((z : Int) < 32) = false := by simp; omega
    by_cases h2 : z = 127
    · have E := Lib.hid (show ctl c = true by unfold ctl; rw [← hz, decide_eq_true h2]; simp)
      subst h2
      clear h1 hz
      go_enter Try.func59, Try.ntmps59
      go_wp2
      go_ret
      exact ⟨by rw [E.out]; rfl, rfl⟩
    · have t2 : ((z : Int) == 127) = false := by rw [beq_eq_false_iff_ne]; omega
      have E := Lib.hid (show ctl c = false by unfold ctl; rw [← hz, decide_eq_false h1, decide_eq_false h2]; rfl)
      clear h1 hz h2
      go_enter Try.func59, Try.ntmps59
      go_wp2
      go_ret
      exact ⟨by rw [E.out]; rfl, rfl⟩
theorem byte_at (s : ByteArray) (k : Nat) (h : k < s.size) : s.data.toList[k]? = some s[k] := by
  have hl : k < s.data.toList.length := by rw [Array.length_toList]; exact h
  rw [List.getElem?_eq_getElem hl]
  rfl
theorem plain_all (s : ByteArray) : plainB s = true ↔ ∀ k (h : k < s.size), ctl s[k] = false := by
  unfold plainB
  rw [List.all_eq_true]
  constructor
  · intro h k hk
    have := h s[k] (List.mem_of_getElem? (byte_at s k hk))
    simpa [ctl] using this
  · intro h c hc
    obtain ⟨k, hk⟩ := List.mem_iff_getElem?.1 hc
    have hl := (List.getElem?_eq_some_iff.1 hk).1
    rw [Array.length_toList] at hl
    rw [byte_at s k hl] at hk
    cases hk
    have := h k hl
    simpa [ctl] using this
theorem plain_no (s : ByteArray) (k : Nat) (h : k < s.size) (hc : ctl s[k] = true) : plainB s = false := by
  cases e : plainB s with
  | false => rfl
  | true => rw [(plain_all s).1 e k h] at hc; cases hc
set_option maxHeartbeats 1000000 in
set_option maxRecDepth 20000 in
theorem Plain_any (s : ByteArray) (w : World) (hs : s.size ≤ 140737488355328) : Calls Try.prog 54 #[.string s] w fun e w' => e = .returned (.bool (plainB s)) ∧ w = w' := by
  go_enter Try.func54, Try.ntmps54
  go_wp2_with fail
  go_loopw [6] (fun x wr => ∃ k : Nat, k ≤ s.size ∧ x = .int .i64 k ∧ (∀ j (h : j < s.size), j < k → ctl s[j] = false) ∧ w = wr) (fun x _ => s.size - (intOf x).toNat)
  case atStart => exact ⟨0, Nat.zero_le _, rfl, fun j h hj => absurd hj (Nat.not_lt_zero j), rfl⟩
  case round =>
    obtain ⟨k, hk, rfl, hall, rfl⟩ := hrel
    have HALL := Lib.hid hall
    clear hall
    rcases Nat.lt_or_ge k s.size with hlt | hge
    · have hk1 : (k : Int) < s.size := by omega
      have HLT := Lib.hid hlt
      have K := control_any s[k] w
      cases hc : ctl s[k] with
      | true =>
        have EP := Lib.hid (plain_no s k hlt hc)
        rw [hc] at K
        clear hc
        go_wp2_with fail
        refine K.mono ?_
        rintro e w1 ⟨rfl, rfl⟩
        clear K
        go_wp2
        go_ret
        exact ⟨by rw [EP.out]; rfl, rfl⟩
      | false =>
        have HC := Lib.hid hc
        rw [hc] at K
        clear hc
        go_wp2_with fail
        refine K.mono ?_
        rintro e w1 ⟨rfl, rfl⟩
        clear K
        go_wp2
        go_roundw
        case rel => exact ⟨k + 1, HLT.out, by go_num, fun j h hj => by
          by_cases e : j = k
          · subst e; exact HC.out
          · exact HALL.out j h (by omega), by first | rfl | trivial⟩
        case measure => have := HLT.out; simp [intOf]; omega
    · have hk1 : ¬ (k : Int) < s.size := by omega
      have EP := Lib.hid (show plainB s = true from (plain_all s).2 fun j h => HALL.out j h (by omega))
      clear hge
      go_wp2
      go_ret
      exact ⟨by rw [EP.out]; rfl, rfl⟩
theorem empty_iff (s : ByteArray) : s.toList.isEmpty = decide (s.size = 0) := by
  rw [Lib.toList_data]
  have : s.data.toList.length = s.size := by rw [Array.length_toList]; rfl
  cases h : s.data.toList with
  | nil => rw [h] at this; simp at this; simp [← this]
  | cons c r => rw [h] at this; simp at this; simp [← this]
set_option maxHeartbeats 1000000 in
theorem named_any (s : ByteArray) (w : World) (hs : s.size ≤ 140737488355328) : Calls Try.prog 40 #[.string s] w fun e w' => e = .returned (.bool (named s)) ∧ w = w' := by
  by_cases h0 : s.size = 0
  · have E := Lib.hid (show named s = false by unfold named; simp [h0])
    have t1 : s.toList.isEmpty = true := by rw [empty_iff]; exact decide_eq_true h0
    clear h0
    go_enter Try.func40, Try.ntmps40
    go_wp2
    go_ret
    exact ⟨by rw [E.out]; rfl, rfl⟩
  have t1 : s.toList.isEmpty = false := by rw [empty_iff]; exact decide_eq_false h0
  by_cases h1 : s.size ≤ 64
  · have t2 : (s.size : Int) ≤ 64 := by omega
    have E := Lib.hid (show named s = plainB s by unfold named; rw [decide_eq_true (by omega), decide_eq_true h1]; rfl)
    clear h0 h1
    go_enter Try.func40, Try.ntmps40
    go_wp2_with fail
    refine (Plain_any s w hs).mono ?_
    rintro e w1 ⟨rfl, rfl⟩
    go_wp2
    go_ret
    exact ⟨by rw [E.out]; rfl, rfl⟩
  · have t2 : decide ((s.size : Int) ≤ 64) = false := by simp; omega
    have E := Lib.hid (show named s = false by unfold named; simp [h1])
    clear h0 h1
    go_enter Try.func40, Try.ntmps40
    go_wp2
    go_ret
    exact ⟨by rw [E.out]; rfl, rfl⟩
set_option maxHeartbeats 1000000 in
set_option maxRecDepth 20000 in
theorem rPlain_any (s : ByteArray) (w : World) (hs : s.size ≤ 140737488355328) : Calls Try.prog 47 #[.string s] w fun e w' => e = .returned (.bool (plainB s)) ∧ w = w' := by
  go_enter Try.func47, Try.ntmps47
  go_wp2_with fail
  go_loopw [3] (fun x wr => ∃ k : Nat, k ≤ s.size ∧ x = .int .i64 k ∧ (∀ j (h : j < s.size), j < k → ctl s[j] = false) ∧ w = wr) (fun x _ => s.size - (intOf x).toNat)
  case atStart => exact ⟨0, Nat.zero_le _, rfl, fun j h hj => absurd hj (Nat.not_lt_zero j), rfl⟩
  case round =>
    obtain ⟨k, hk, rfl, hall, rfl⟩ := hrel
    have HALL := Lib.hid hall
    clear hall
    rcases Nat.lt_or_ge k s.size with hlt | hge
    · have hk1 : (k : Int) < s.size := by omega
      have HLT := Lib.hid hlt
      obtain ⟨c, hc⟩ : ∃ c, c = s[k]'hlt := ⟨_, rfl⟩
      have e1 : ((s[k]'hlt).toNat : Int) = (c.toNat : Int) := by rw [hc]
      obtain ⟨z, hz⟩ : ∃ z, z = c.toNat := ⟨_, rfl⟩
      rw [← hz] at e1
      have hct : ctl (s[k]'hlt) = (decide (z < 32) || decide (z = 127)) := by rw [← hc, hz]; rfl
      clear hc hz
      by_cases h1 : z < 32
      · have t1 : decide ((z : Int) < 32) = true := by simp; omega
        have EP := Lib.hid (plain_no s k hlt (by rw [hct]; simp [h1]))
        clear h1 hct
        go_wp2
        go_ret
        exact ⟨by rw [EP.out]; rfl, rfl⟩
      have t1 : decide ((z : Int) < 32) = false := by simp; omega
      by_cases h2 : z = 127
      · have t2 : ((z : Int) == 127) = true := by rw [beq_iff_eq]; omega
        have EP := Lib.hid (plain_no s k hlt (by rw [hct]; simp [h2]))
        clear h1 h2 hct
        go_wp2
        go_ret
        exact ⟨by rw [EP.out]; rfl, rfl⟩
      · have t2 : ((z : Int) == 127) = false := by rw [beq_eq_false_iff_ne]; omega
        have HC := Lib.hid (show ctl (s[k]'hlt) = false by rw [hct]; simp [h1, h2] <;> omega)
        clear h1 h2 hct
        go_wp2
        go_roundw
        case rel => exact ⟨k + 1, HLT.out, by go_num, fun j h hj => by
          by_cases e : j = k
          · subst e; exact HC.out
          · exact HALL.out j h (by omega), by first | rfl | trivial⟩
        case measure => have := HLT.out; simp [intOf]; omega
    · have hk1 : ¬ (k : Int) < s.size := by omega
      have EP := Lib.hid (show plainB s = true from (plain_all s).2 fun j h => HALL.out j h (by omega))
      clear hge
      go_wp2
      go_ret
      exact ⟨by rw [EP.out]; rfl, rfl⟩
set_option maxHeartbeats 1000000 in
theorem rnamed_any (s : ByteArray) (w : World) (hs : s.size ≤ 140737488355328) : Calls Try.prog 27 #[.string s] w fun e w' => e = .returned (.bool (named s)) ∧ w = w' := by
  cases hp : plainB s with
  | false =>
    have E := Lib.hid (show named s = false by unfold named; rw [hp]; simp)
    have K := rPlain_any s w hs
    rw [hp] at K
    clear hp
    go_enter Try.func27, Try.ntmps27
    go_wp2_with fail
    refine K.mono ?_
    rintro e w1 ⟨rfl, rfl⟩
    go_wp2
    go_ret
    exact ⟨by rw [E.out]; rfl, rfl⟩
  | true =>
    have E := Lib.hid (show named s = (decide (1 ≤ s.size) && decide (s.size ≤ 64)) by unfold named; rw [hp]; simp)
    have K := rPlain_any s w hs
    rw [hp] at K
    clear hp
    by_cases h0 : 1 ≤ s.size
    · by_cases h1 : s.size ≤ 64
      · have E2 := Lib.hid (show named s = true by rw [E.out, decide_eq_true h0, decide_eq_true h1]; rfl)
        have t1 : (1 : Int) ≤ s.size := by omega
        have t2 : (s.size : Int) ≤ 64 := by omega
        clear h0 h1
        go_enter Try.func27, Try.ntmps27
        go_wp2_with fail
        refine K.mono ?_
        rintro e w1 ⟨rfl, rfl⟩
        go_wp2
        go_ret
        exact ⟨by rw [E2.out]; rfl, rfl⟩
      · have E2 := Lib.hid (show named s = false by rw [E.out, decide_eq_false h1]; simp)
        clear h0
        go_enter Try.func27, Try.ntmps27
        go_wp2_with fail
        refine K.mono ?_
        rintro e w1 ⟨rfl, rfl⟩
        have t1 : (1 : Int) ≤ s.size := by omega
        have t2 : decide ((s.size : Int) ≤ 64) = false := by simp; omega
        clear h1
        go_wp2
        go_ret
        exact ⟨by rw [E2.out]; rfl, rfl⟩
    · have E2 := Lib.hid (show named s = false by rw [E.out, decide_eq_false h0]; rfl)
      go_enter Try.func27, Try.ntmps27
      go_wp2_with fail
      refine K.mono ?_
      rintro e w1 ⟨rfl, rfl⟩
      have hz : s.size = 0 := by omega
      have t1 : decide ((1 : Int) ≤ s.size) = false := by simp; omega
      clear h0
      go_wp2
      go_ret
      exact ⟨by rw [E2.out]; rfl, rfl⟩
end Go.Proofs.Ytlmnniajindlgaa.HLab
