/- The reference's histogram, walked: Rank, Number. -/
import Derived.Test.YtmhljblfbnjopaaHistRef
namespace Go.Proofs.Ytmhljblfbnjopaa.HHist
set_option linter.unusedVariables false
open Go.RowKit Go.Proofs.Ytmhljblfbnjopaa.HMem Go.Proofs.Ytmhljblfbnjopaa.HBucket
open Go.Proofs.Ytmhljblfbnjopaa.Print (I64)

set_option maxHeartbeats 1000000 in
set_option maxRecDepth 20000 in
theorem rNumber_any (s : ByteArray) (w : World) (hs : s.size ≤ 8) :
    Calls Try.prog 41 #[.string s] w fun e w' => e = .returned (.int .u64 (num s.data.toList : Nat)) ∧ w = w' := by
  go_enter Try.func41, Try.ntmps41
  go_wp2
  go_loop [3, 4] (fun n x => ∃ k : Nat, k ≤ s.size ∧ x = .int .i64 k ∧ n = .int .u64 (num (s.data.toList.take k) : Nat)) (fun _ x => s.size - (intOf x).toNat)
  case atStart => exact ⟨0, Nat.zero_le _, rfl, rfl⟩
  case round =>
    obtain ⟨k, hk, rfl, rfl⟩ := hrel
    rcases Nat.lt_or_ge k s.size with hlt | hge
    · have hk1 : (k : Int) < s.size := by omega
      have hn : num (s.data.toList.take k) < 72057594037927936 := by
        have := num_lt (s.data.toList.take k)
        have h2 : (s.data.toList.take k).length ≤ 7 := by simp; omega
        exact Nat.lt_of_lt_of_le this (Nat.le_trans (Nat.pow_le_pow_right (by decide) h2) (by decide))
      have E := or_step (num (s.data.toList.take k)) s[k].toNat hn (s[k].toNat_lt)
      have EN : num (s.data.toList.take (k + 1)) = num (s.data.toList.take k) * 256 + s[k].toNat := by rw [take_byte s k hlt, num_snoc]
      rw [← EN] at E
      obtain ⟨m, hm⟩ : ∃ m, m = num (s.data.toList.take k) := ⟨_, rfl⟩
      obtain ⟨m', hm'⟩ : ∃ m', m' = num (s.data.toList.take (k + 1)) := ⟨_, rfl⟩
      rw [← hm, ← hm'] at E
      rw [← hm]
      have HM := Lib.hid hm'
      clear hm hm' EN hn
      go_wp2
      go_round
      case rel => exact ⟨k + 1, by omega, by go_num, by rw [← HM.out]⟩
      case measure => simp [intOf]; omega
    · have hk1 : ¬ (k : Int) < s.size := by omega
      have E := Lib.hid (show s.data.toList.take k = s.data.toList from List.take_of_length_le (by simpa using hge))
      rw [E.out]
      clear hge
      go_wp2
      go_ret
      exact ⟨rfl, rfl⟩
theorem rankZ_some {l : IL} {r : Nat} {a : Int} (h : ¬ r = 0) (e : rankL l r = some a) : rankZ l r = (a, true) := by
  unfold rankZ; rw [if_neg h, e]
theorem rankZ_none {l : IL} {r : Nat} (h : ¬ r = 0) (e : rankL l r = none) : rankZ l r = (0, false) := by
  unfold rankZ; rw [if_neg h, e]
theorem rRank_any {w : World} {p : Nat} {G : List Nat} {b : Int} {l : IL} (h : RHistAt w p G b l) (hl : l.length ≤ 4294967296) (r : Nat) (hr : r < 18446744073709551616) :
    Calls Try.prog 31 #[.pointer (some ⟨p, 0, none⟩), .int .u64 r] w fun e w' => e = .returned (.tuple #[.int .i64 (rankZ l r).1, .bool (rankZ l r).2]) ∧ w = w' := by
  by_cases hr0 : r = 0
  · subst hr0
    go_enter Try.func31, Try.ntmps31
    go_wp2
    go_ret2
    exact ⟨rfl, rfl⟩
  obtain ⟨c0, v, R, _, _, c1, hrow⟩ := h.cells
  clear h
  obtain ⟨ba, cap, rfl, _⟩ := hrow.form
  obtain ⟨n, hn⟩ : ∃ n, n = l.length := ⟨_, rfl⟩
  rw [← hn] at hrow hl c1
  have HN := Lib.hid hn
  have RR := Lib.hid hrow
  have HR0 := Lib.hid hr0
  have hr1 : ¬ (r : Int) = 0 := by omega
  clear hrow hn
  go_enter Try.func31, Try.ntmps31
  go_wp2_with fail
  go_loopw [1, 6] (fun x y wr => ∃ j q : Nat, x = .int .u64 q ∧ y = .int .i64 j ∧ j ≤ n ∧ q < 18446744073709551616 ∧ rankL (l.drop j) q = rankL l r ∧ w = wr) (fun _ y _ => n - (intOf y).toNat)
  case atStart => exact ⟨0, r, rfl, rfl, Nat.zero_le _, hr, rfl, rfl⟩
  case round =>
    obtain ⟨j, q, rfl, rfl, hj, hq, hrk, rfl⟩ := hrel
    rcases Nat.lt_or_ge j n with hlt | hge
    · have hj1 : (j : Int) < n := by omega
      have hjl : j < l.length := by rw [← HN.out]; exact hlt
      obtain ⟨x, hx⟩ : ∃ x, l[j]? = some x := ⟨_, List.getElem?_eq_getElem hjl⟩
      obtain ⟨g, off, cap', e1, _, _, _, hc⟩ := RR.out.there (by omega)
      cases e1
      have d0 := (hc _ _ (flat_get l j x hx).1).1
      have d1 := (hc _ _ (flat_get l j x hx).2).1
      rw [← Nat.add_assoc] at d1
      have ED : l.drop j = x :: l.drop (j + 1) := by
        rw [List.drop_eq_getElem_cons hjl]
        rw [Option.some.inj ((List.getElem?_eq_getElem hjl).symm.trans hx)]
      rw [ED] at hrk
      have hlt' := Lib.hid hlt
      clear hc hx hlt ED hjl
      by_cases hle : q ≤ x.2
      · have hle1 : (q : Int) ≤ (x.2 : Int) := by omega
        have EA := Lib.hid (show rankZ l r = (x.1, true) by
          exact rankZ_some HR0.out (by rw [← hrk, rankL, if_pos hle]))
        clear hrk
        go_wp2
        go_ret2
        exact ⟨by simp only [EA.out]; first | done | rfl, rfl⟩
      · have hle1 : ¬ (q : Int) ≤ (x.2 : Int) := by omega
        have hsub : (q : Int) - (x.2 : Int) = ((q - x.2 : Nat) : Int) := by omega
        have hrk' := Lib.hid (show rankL (l.drop (j + 1)) (q - x.2) = rankL l r by rw [← hrk, rankL, if_neg hle])
        clear hrk
        go_wp2
        go_roundw
        case rel => exact ⟨j + 1, q - x.2, by go_num, by go_num, hlt'.out, by omega, hrk'.out, by first | rfl | trivial⟩
        case measure => have := hlt'.out; simp [intOf]; omega
    · have hj1 : ¬ (j : Int) < n := by omega
      have EA := Lib.hid (show rankZ l r = (0, false) by
        exact rankZ_none HR0.out (by rw [← hrk, List.drop_of_length_le (by have := HN.out; omega), rankL]))
      clear hge hrk
      go_wp2
      go_ret2
      exact ⟨by simp only [EA.out]; first | done | rfl, rfl⟩
end Go.Proofs.Ytmhljblfbnjopaa.HHist
