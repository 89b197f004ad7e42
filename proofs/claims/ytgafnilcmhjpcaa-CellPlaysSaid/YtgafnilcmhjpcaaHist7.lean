/- Histograms: put, get, walked: numbers as bytes, the highest first. -/
import Derived.Test.YtgafnilcmhjpcaaHist3
import Derived.Laws.BytesArg
import Derived.Laws.BitsAllLaws
import Derived.Maps.AppendAt
namespace Go.Proofs.Ytgafnilcmhjpcaa.HHist
set_option linter.unusedVariables false
open Go.RowKit Go.Proofs.Ytgafnilcmhjpcaa.HMem Go.Proofs.Ytgafnilcmhjpcaa.HBucket
open Go.Proofs.Ytgafnilcmhjpcaa.Print (I64)

/-- A number's bytes, so many, the highest first. -/
def be (N : Nat) : Nat → List Int
  | 0 => []
  | k + 1 => ((N / 2 ^ (8 * k) % 256 : Nat) : Int) :: be N k
theorem be_length (N : Nat) : ∀ k, (be N k).length = k
  | 0 => rfl
  | k + 1 => by simp [be, be_length N k]
theorem be_byte (N : Nat) : ∀ k, ∀ x ∈ be N k, 0 ≤ x ∧ x < 256
  | 0, x, h => by simp [be] at h
  | k + 1, x, h => by
    rcases List.mem_cons.1 h with rfl | h
    · omega
    · exact be_byte N k x h
def vb (l : List Int) : List Value := l.map (Value.int .u8)
theorem vb_one (l : List Int) : ∀ v ∈ vb l, v.oneCell' = true := fun v h => by
  obtain ⟨x, _, rfl⟩ := List.mem_map.1 h
  rfl
theorem infoB : (Try.prog.info? 5).map (fun i => (i.zero, i.size, i.bytes)) = some (some (.int .u8 0), 1, 1) := by kernel_rfl
theorem grown_below {B : Nat} {w0 w w' : World} {row : Option Nat} (h : Below B w0 w) (hg : w.grownBy w' row) (hB : B ≤ w.heap.size) (hr : ∀ k, row = some k → B ≤ k) : Below B w0 w' := h.grown hg hB hr

set_option maxHeartbeats 1000000 in
set_option maxRecDepth 20000 in
theorem put_any (w : World) (B : Nat) (v : Value) (xs : List Int) (N s : Nat) (ho : w.ownsRow B 5 1 v xs.length (vb xs)) (hB : B ≤ w.heap.size) (hN : N < 18446744073709551616) (hs : s ≤ 8) (hx : xs.length ≤ 1000000000) :
    Calls Try.prog 62 #[v, .int .u64 N, .int .i64 s] w fun e w' => ∃ v', e = .returned v' ∧ (w'.ownsRow B 5 1 v' (xs ++ be N s).length (vb (xs ++ be N s)) ∧ Turn (ob v) (ob v') w w') := by
  have HO := Lib.hid ho
  have HB := Lib.hid hB
  clear ho hB
  obtain ⟨i0, hi, hz0, hz1, hz2⟩ := info_parts infoB
  go_enter Try.func62, Try.ntmps62
  go_wp2
  go_loopw [0, 7] (fun v1 k wr => ∃ (j : Nat) (ys : List Int), j ≤ s ∧ k = .int .i64 ((j : Int) - 1) ∧ ys.length = s - j ∧ ys ++ be N j = be N s ∧ wr.ownsRow B 5 1 v1 (xs ++ ys).length (vb (xs ++ ys)) ∧ Turn (ob v) (ob v1) w wr) (fun _ k _ => (intOf k + 1).toNat)
  case atStart => exact ⟨s, [], Nat.le_refl _, rfl, by simp, rfl, by simpa using HO.out, Turn.refl _ _⟩
  case round =>
    obtain ⟨j, ys, hj, rfl, hys, hbe, hown, htn⟩ := hrel
    have BE := Lib.hid hbe
    have TN := Lib.hid htn
    have YS := Lib.hid hys
    clear hbe htn hys
    cases j with
    | zero =>
      have OW := Lib.hid (show wr.ownsRow B 5 1 u0 (xs ++ be N s).length (vb (xs ++ be N s)) by
        have := BE.out
        simp only [be, List.append_nil] at this
        rw [← this]; exact hown)
      clear hown
      go_wp2
      go_ret
      exact ⟨_, rfl, OW.out, TN.out⟩
    | succ j =>
      have t1 : ¬ ((j + 1 : Nat) : Int) - 1 < 0 := by omega
      have hb0 : Below wr.heap.size wr wr := Below.refl _ _
      have hlen : (xs ++ ys).length ≤ 2000000000 := by rw [List.length_append]; have := YS.out; omega
      obtain ⟨L, hL⟩ : ∃ L, L = vb (xs ++ ys) := ⟨_, rfl⟩
      obtain ⟨n, hn⟩ : ∃ n, n = (xs ++ ys).length := ⟨_, rfl⟩
      rw [← hL, ← hn] at hown
      rw [← hn] at hlen
      have HLL := Lib.hid hL
      have HNN := Lib.hid hn
      clear hL hn
      have HX := Lib.hid (show ((N / 2 ^ (8 * j) % 256 : Nat) : Int) = (N : Int) / 2 ^ (8 * j) % 256 by simp)
      clear hb0
      go_wp2_with (first
        | (at_builtin; refine wpList_append_own_at _ rfl _ _ 79 rfl B 5 i0 (.int .u8 0) 1 1 Try.underlying79 hi hz0 hz1 hz2 rfl (by decide) _ _ _ rfl (hown.alloc _) ⟨wr.heap.size, 0, none⟩ 1 1 [.int .u8 ((N : Int) / 2 ^ (8 * j) % 256)] rfl rfl ?c1 ?c2 ?c3 ?c4 ?c5 ?_)
        | fail)
      case c2 => rfl
      case c3 => unfold maxLen; omega
      case c4 => omega
      case c5 => have := HB.out; have := TN.out.size; omega
      intro v' w1 hown' hgrow _ hat
      have TW := Lib.hid ((TN.out.trans (Turn.of ((Below.refl _ _).alloc (Nat.le_refl _) _))).trans (Turn.grown (v := u0) (v' := v') hgrow (by simpa using hat)))
      have O1 := Lib.hid (show w1.ownsRow B 5 1 v' (xs ++ (ys ++ [((N / 2 ^ (8 * j) % 256 : Nat) : Int)])).length (vb (xs ++ (ys ++ [((N / 2 ^ (8 * j) % 256 : Nat) : Int)]))) by
        rw [← List.append_assoc, HX.out, List.length_append, ← HNN.out]
        have e : vb (xs ++ ys ++ [(N : Int) / 2 ^ (8 * j) % 256]) = vb (xs ++ ys) ++ [.int .u8 ((N : Int) / 2 ^ (8 * j) % 256)] := by simp [vb]
        rw [e, ← HLL.out]
        exact hown')
      clear hown' hgrow hown hat
      go_wp2
      go_roundw
      case rel => exact ⟨j, _, by omega, by go_num, by have := YS.out; simp; omega, by rw [List.append_assoc]; exact BE.out, O1.out, TW.out⟩
      case measure => simp [intOf]

/-- The number of bytes. -/
def num (l : List UInt8) : Nat := l.foldl (fun n c => n * 256 + c.toNat) 0
theorem num_lt (l : List UInt8) : num l < 256 ^ l.length := by
  suffices h : ∀ (l : List UInt8) (n k : Nat), n < 256 ^ k → l.foldl (fun n c => n * 256 + c.toNat) n < 256 ^ (k + l.length) from by simpa [num] using h l 0 0 (by simp)
  intro l
  induction l with
  | nil => intro n k h; simpa using h
  | cons c r ih =>
    intro n k h
    rw [List.foldl_cons, List.length_cons, show k + (r.length + 1) = (k + 1) + r.length by omega]
    refine ih _ _ ?_
    have := c.toNat_lt
    have e : 256 ^ (k + 1) = 256 ^ k * 256 := Nat.pow_succ ..
    omega
theorem num_snoc (l : List UInt8) (c : UInt8) : num (l ++ [c]) = num l * 256 + c.toNat := by simp [num]
theorem or_step (n c : Nat) (hn : n < 72057594037927936) (hc : c < 256) : Go.bits .or .u64 (IntKind.u64.wrap ((n : Int) * 256)) (IntKind.u64.wrap (c : Int)) = ((n * 256 + c : Nat) : Int) := by
  rw [u64_in _ (by omega) (by omega), u64_in _ (by omega) (by omega), show (n : Int) * 256 = ((n * 256 : Nat) : Int) by simp, u64_or_nat _ _ (by omega) (by omega)]
  have := Nat.two_pow_add_eq_or_of_lt (i := 8) (b := c) (by omega) n
  rw [show n * 256 = 2 ^ 8 * n by omega, ← this]
theorem take_byte (s : ByteArray) (k : Nat) (h : k < s.size) : s.data.toList.take (k + 1) = s.data.toList.take k ++ [s[k]] := by
  rw [List.take_succ_eq_append_getElem (by simpa using h)]; rfl
set_option maxHeartbeats 1000000 in
set_option maxRecDepth 20000 in
theorem get_any (s : ByteArray) (w : World) (hs : s.size ≤ 8) :
    Calls Try.prog 86 #[.string s] w fun e w' => e = .returned (.int .u64 (num s.data.toList : Nat)) ∧ w = w' := by
  go_enter Try.func86, Try.ntmps86
  go_wp2
  go_loop [2, 6] (fun n x => ∃ k : Nat, k ≤ s.size ∧ x = .int .i64 k ∧ n = .int .u64 (num (s.data.toList.take k) : Nat)) (fun _ x => s.size - (intOf x).toNat)
  case atStart => exact ⟨0, Nat.zero_le _, rfl, rfl⟩
  case round =>
    obtain ⟨k, hk, rfl, rfl⟩ := hrel
    rcases Nat.lt_or_ge k s.size with hlt | hge
    · have hk1 : (k : Int) < s.size := by omega
      have hn : num (s.data.toList.take k) < 72057594037927936 := by
        have := num_lt (s.data.toList.take k)
        have h2 : (s.data.toList.take k).length ≤ 7 := by simp; omega
        exact Nat.lt_of_lt_of_le this (Nat.le_trans (Nat.pow_le_pow_right (by decide) h2) (by decide))
      have E := or_step (num (s.data.toList.take k)) s[k].toNat hn (s[k].toNat_lt)
      have EN : num (s.data.toList.take (k + 1)) = num (s.data.toList.take k) * 256 + s[k].toNat := by rw [take_byte s k hlt, num_snoc]
      rw [← EN] at E
      obtain ⟨m, hm⟩ : ∃ m, m = num (s.data.toList.take k) := ⟨_, rfl⟩
      obtain ⟨m', hm'⟩ : ∃ m', m' = num (s.data.toList.take (k + 1)) := ⟨_, rfl⟩
      rw [← hm, ← hm'] at E
      rw [← hm]
      have HM := Lib.hid hm'
      clear hm hm' EN hn
      go_wp2
      go_round
      case rel => exact ⟨k + 1, by omega, by go_num, by rw [← HM.out]⟩
      case measure => simp [intOf]; omega
    · have hk1 : ¬ (k : Int) < s.size := by omega
      have E := Lib.hid (show s.data.toList.take k = s.data.toList from List.take_of_length_le (by simpa using hge))
      rw [E.out]
      clear hge
      go_wp2
      go_ret
      exact ⟨rfl, rfl⟩

end Go.Proofs.Ytgafnilcmhjpcaa.HHist
