/- Contracts of sip.Key and sip.Rank (and math/bits.TrailingZeros64 under its table). The table's cells are a premise on the world. -/
import Derived.Test.YtjlhfjcjmeonmaaDoorSip
import Derived.Lib.TrailingZeros
import Derived.Laws.Bits64b
namespace Go.Proofs.YtjlhfjcjmeonmaaDoor.HSip
open Go.RowKit Go.Proofs.YtjlhfjcjmeonmaaDoor.Print Go.Proofs.YtjlhfjcjmeonmaaDoorW.PrintWords Go.Proofs.YtjlhfjcjmeonmaaDoorW.PrintLast Go.Proofs.YtjlhfjcjmeonmaaDoorW.PrintMore

/-- The table in its variable. -/
def TabAt (w : World) : Prop := ∀ j, j < 64 → w.cell? ⟨0, j, none⟩ = some (.int .u8 (Lib.deBruijn64tab.getD j 0 : Nat))
theorem TabAt.below {w w' : World} (h : TabAt w) (hb : Below w.heap.size w w') : TabAt w' := fun j hj => by
  have := h j hj
  rw [hb.cell (World.block_lt_of_cell? _ _ this)]
  exact this

set_option maxHeartbeats 1000000 in
theorem tz_core (x k idx : Nat) (w : World) (hx0 : ((x : Int) == 0) = false)
    (key : IntKind.u64.wrap (bits .and .u64 (x : Int) (IntKind.u64.wrap (-(x : Int))) * 285870213051353865) / 288230376151711744 = (idx : Int))
    (hi : idx < 64) (hk : k < 64) (hcell : w.cell? ⟨0, idx, none⟩ = some (.int .u8 k)) :
    Calls Tryd.prog 19 #[.int .u64 x] w fun e w' => e = .returned (.int .i64 k) ∧ w' = w := by
  go_enter Tryd.func19, Tryd.ntmps19
  go_wp2_with (simp only [key])
  go_ret
  exact ⟨rfl, rfl⟩

theorem tz_zero (w : World) : Calls Tryd.prog 19 #[.int .u64 0] w fun e w' => e = .returned (.int .i64 64) ∧ w' = w := by
  go_enter Tryd.func19, Tryd.ntmps19
  go_wp2
  go_ret
  exact ⟨rfl, rfl⟩

theorem tz_key (x a : Nat) (hx : x < M64) (hx0 : x ≠ 0) (hlow : x &&& (M64 - x) = a) :
    IntKind.u64.wrap (bits .and .u64 (x : Int) (IntKind.u64.wrap (-(x : Int))) * 285870213051353865) / 288230376151711744 = ((a * 285870213051353865 % M64 / 288230376151711744 : Nat) : Int) := by
  have e1 : IntKind.u64.wrap (-(x : Int)) = ((M64 - x : Nat) : Int) := by
    unfold M64 at *
    simp only [IntKind.wrap, IntKind.signed, IntKind.bits, Bool.false_and, Bool.false_eq_true, if_false]
    omega
  have hy : M64 - x < M64 := by unfold M64 at *; omega
  rw [e1, u64_and_nat x _ hx hy, hlow]
  have e2 : ((a : Int) * 285870213051353865) = ((a * 285870213051353865 : Nat) : Int) := (Int.natCast_mul a 285870213051353865).symm
  rw [e2, wrap_nat]
  rfl

theorem tz_any (x : Nat) (hx : x < M64) (w : World) (hT : TabAt w) :
    Calls Tryd.prog 19 #[.int .u64 x] w fun e w' => e = .returned (.int .i64 (Lib.ctz 64 x)) ∧ w' = w := by
  by_cases hx0 : x = 0
  · subst hx0
    exact tz_zero w
  · obtain ⟨hlow, hk⟩ := Lib.lowest_bit 64 x hx0 hx
    obtain ⟨hi, htab⟩ := Lib.deBruijn64_at _ hk
    have hcell := hT _ hi
    rw [htab] at hcell
    exact tz_core x _ _ w (by simp; omega) (tz_key x _ hx hx0 hlow) hi hk hcell

theorem ctz_le (x : Nat) (hx : x < M64) : Lib.ctz 64 x ≤ 64 := by
  by_cases h : x = 0
  · subst h; decide
  · have := (Lib.lowest_bit 64 x h hx).2; omega

/-- Where the first bit stands, from a bit on. -/
def rankN (h f : Nat) : Nat := min (Lib.ctz 64 (h / 2 ^ f)) (64 - f) + 1

theorem Rank_yes (h f : Nat) (hh : h < M64) (hf : f < 64) (w : World) (hT : TabAt w) :
    Calls Tryd.prog 13 #[.int .u64 h, .int .i64 f] w fun e w' => e = .returned (.int .i64 (rankN h f)) ∧ w' = w := by
  have t1 : decide ((64 : Int) ≤ (f : Int)) = false := by simp; omega
  have t2 : decide (64 ≤ f) = false := by simp; omega
  have hq : h / 2 ^ f < M64 := Nat.lt_of_le_of_lt (Nat.div_le_self _ _) hh
  have hc := ctz_le (h / 2 ^ f) hq
  have E := Lib.hid (show (h : Int) / 2 ^ f = ((h / 2 ^ f : Nat) : Int) by push_cast; rfl)
  have Q := Lib.hid hq
  have HT := Lib.hid hT
  have hR : rankN h f = min (Lib.ctz 64 (h / 2 ^ f)) (64 - f) + 1 := rfl
  have HR := Lib.hid hR
  clear hq hR hT
  obtain ⟨c, hcc⟩ : ∃ c, c = Lib.ctz 64 (h / 2 ^ f) := ⟨_, rfl⟩
  rw [← hcc] at hc HR
  have HC := Lib.hid hcc
  clear hcc
  go_enter Tryd.func13, Tryd.ntmps13
  go_wp2_with (go_at_call 19; rw [E.out]; refine (tz_any _ Q.out _ HT.out).mono ?_; rintro e w1 ⟨rfl, rfl⟩; rw [← HC.out])
  all_goals
    go_ret
    refine ⟨congrArg Ending.returned (congrArg (Value.int IntKind.i64) ?_), rfl⟩
    rw [HR.out]
    omega

theorem Rank_no (h f : Int) (w : World) (hf : f < 0 ∨ 64 ≤ f) :
    Calls Tryd.prog 13 #[.int .u64 h, .int .i64 f] w fun e w' => e = .returned (.int .i64 0) ∧ w' = w := by
  rcases hf with hf | hf
  · go_enter Tryd.func13, Tryd.ntmps13
    go_wp2
    go_ret
    exact ⟨rfl, rfl⟩
  · have h' : 0 ≤ f := by omega
    go_enter Tryd.func13, Tryd.ntmps13
    go_wp2
    go_ret
    exact ⟨rfl, rfl⟩

theorem Key_any (s : ByteArray) (w : World) (hs : s.size ≤ 140737488355328) :
    Calls Tryd.prog 10 #[.string s] w fun e w' => e = .returned (.tuple #[.int .u64 (sumN 0 0 s.data.toList : Nat), .int .u64 (sumN 1 0 s.data.toList : Nat)]) ∧ Below w.heap.size w w' := by
  go_enter Tryd.func10, Tryd.ntmps10
  go_wp2_with fail
  refine (Sum_any 0 0 s _ zero_lt zero_lt hs).mono ?_
  rintro e w1 ⟨rfl, hb⟩
  have HB := Lib.hid hb
  clear hb
  go_wp2_with fail
  refine (Sum_any 1 0 s _ (by decide) zero_lt hs).mono ?_
  rintro e w2 ⟨rfl, hb⟩
  have HB2 := Lib.hid hb
  clear hb
  go_wp2
  go_ret2
  exact ⟨rfl, HB.out.trans (HB2.out.mono HB.out.size)⟩

end Go.Proofs.YtjlhfjcjmeonmaaDoor.HSip
