/- Plain laws: what was put is got; cut anywhere it is none. -/
import Derived.Test.YtgafnilcmhjpcaaHistUse
namespace Go.Proofs.Ytgafnilcmhjpcaa.HHist
set_option linter.unusedVariables false
open Go.RowKit Go.Proofs.Ytgafnilcmhjpcaa.HMem Go.Proofs.Ytgafnilcmhjpcaa.HBucket
open Go.Proofs.Ytgafnilcmhjpcaa.Print (I64)

def ub (xs : List Int) : List UInt8 := xs.map fun n => UInt8.ofNat n.toNat
theorem ub_length (xs : List Int) : (ub xs).length = xs.length := by simp [ub]
theorem ub_append (xs ys : List Int) : ub (xs ++ ys) = ub xs ++ ub ys := by simp [ub]
theorem fold_num (l : List UInt8) : ∀ n : Nat, l.foldl (fun n c => n * 256 + c.toNat) n = n * 256 ^ l.length + num l := by
  induction l with
  | nil => intro n; simp [num]
  | cons c r ih =>
    intro n
    unfold num
    rw [List.foldl_cons, List.foldl_cons, ih, ih, List.length_cons, Nat.pow_succ, Nat.add_mul, Nat.zero_mul, Nat.zero_add, Nat.mul_assoc, Nat.mul_comm 256, Nat.add_assoc]
theorem num_cons (c : UInt8) (r : List UInt8) : num (c :: r) = c.toNat * 256 ^ r.length + num r := by
  conv => lhs; unfold num
  rw [List.foldl_cons, fold_num, Nat.zero_mul, Nat.zero_add]
theorem num_be (N : Nat) : ∀ k, num (ub (be N k)) = N % 256 ^ k
  | 0 => by simp [ub, be, num, Nat.mod_one]
  | k + 1 => by
    have e : ub (be N (k + 1)) = UInt8.ofNat (N / 2 ^ (8 * k) % 256) :: ub (be N k) := by
      unfold ub
      rw [be, List.map_cons, Int.toNat_natCast]
    have h256 : (256 : Nat) ^ k = 2 ^ (8 * k) := by rw [Nat.pow_mul]
    have e8 : ∀ x : Nat, x % 256 % 2 ^ 8 = x % 256 := fun x => by omega
    rw [e, num_cons, num_be N k, ub_length, be_length, UInt8.toNat_ofNat', ← h256, e8, Nat.pow_succ, Nat.mod_mul, Nat.mul_comm, Nat.add_comm]
theorem moreL_end : ∀ (acc : IL) (a : Int) (m : Nat), (∀ y ∈ acc, y.1 < a) → moreL acc a m = acc ++ [(a, m)]
  | [], a, m, h => rfl
  | x :: r, a, m, h => by
    unfold moreL
    rw [if_pos (h x (by simp)), moreL_end r a m (fun y hy => h y (by simp [hy]))]
    rfl
theorem decI_enc (b : Nat) (hb : b ≤ 4) (s : List UInt8) : ∀ (l acc : IL) (last : Int), (∀ x ∈ l, 1 ≤ x.2 ∧ -(mostN b : Int) - 1 ≤ x.1 ∧ x.1 ≤ mostN b) → Rise l → (∀ x ∈ l, last < x.1) → (∀ y ∈ acc, ∀ x ∈ l, y.1 < x.1) → total acc + total l ≤ 1099511627776 →
    decI b l.length (ub (encI l) ++ s) last acc = some (acc ++ l, s)
  | [], acc, last, _, _, _, _, _ => by simp [decI, encI, ub]
  | x :: r, acc, last, hi, hr, hl, ha, ht => by
    have h := hi x (by simp)
    have hm := most_lt b hb
    have htot : total (x :: r) = x.2 + total r := rfl
    have e0 : ub (encI (x :: r)) ++ s = ub (be (x.1 + 2147483648).toNat 4) ++ (ub (be x.2 6) ++ (ub (encI r) ++ s)) := by
      rw [encI, ub_append, ub_append, List.append_assoc, List.append_assoc]
    have l4 : (ub (be (x.1 + 2147483648).toNat 4)).length = 4 := by rw [ub_length, be_length]
    have l6 : (ub (be x.2 6)).length = 6 := by rw [ub_length, be_length]
    have e1 : itAt (ub (encI (x :: r)) ++ s) = x.1 := by
      unfold itAt
      rw [e0, List.take_left' l4, num_be, Nat.mod_eq_of_lt (by rw [show (256 : Nat) ^ 4 = 4294967296 from rfl]; omega)]
      omega
    have e2 : itMany (ub (encI (x :: r)) ++ s) = x.2 := by
      unfold itMany
      rw [e0, List.drop_left' l4, List.take_left' l6, num_be, Nat.mod_eq_of_lt (by rw [show (256 : Nat) ^ 6 = 281474976710656 from rfl]; omega)]
    have e3 : (ub (encI (x :: r)) ++ s).drop 10 = ub (encI r) ++ s := by
      rw [e0, ← List.append_assoc, List.drop_left' (by rw [List.length_append, l4, l6])]
    have ok : itOk b (ub (encI (x :: r)) ++ s) last acc = true := by
      unfold itOk
      rw [e1, e2]
      have := hl x (by simp)
      simp
      omega
    rw [List.length_cons, decI, if_pos ok, e1, e2, e3, moreL_end acc x.1 x.2 (fun y hy => ha y hy x (by simp)), decI_enc b hb s r (acc ++ [x]) x.1 (fun y hy => hi y (by simp [hy])) hr.tail hr.head ?_ ?_]
    · rw [List.append_assoc]; rfl
    · intro y hy z hz
      rcases List.mem_append.1 hy with hy | hy
      · exact ha y hy z (by simp [hz])
      · simp at hy; subst hy; exact hr.head z hz
    · rw [total_append]
      have : total [x] = x.2 := rfl
      omega
theorem enc_head (b : Nat) (l : IL) (hb : b ≤ 4) (hl : l.length ≤ 2113) (k : Nat) (hk : 3 ≤ k) (s : List UInt8) : num (((ub (encL b l)).take k ++ s).take 1) = b ∧ num ((((ub (encL b l)).take k ++ s).drop 1).take 2) = l.length ∧ (ub (encL b l) ++ s).drop 3 = ub (encI l) ++ s := by
  obtain ⟨k, rfl⟩ : ∃ j, k = j + 3 := ⟨k - 3, by omega⟩
  have l2 : (ub (be l.length 2)).length = 2 := by rw [ub_length, be_length]
  have e : ub (encL b l) = UInt8.ofNat b :: (ub (be l.length 2) ++ ub (encI l)) := by simp [ub, encL]
  have e1 : (ub (encL b l)).take (k + 3) = UInt8.ofNat b :: (ub (be l.length 2) ++ (ub (encI l)).take k) := by
    rw [e, show k + 3 = (k + 2) + 1 from rfl, List.take_succ_cons, List.take_append, l2, List.take_of_length_le (by omega), Nat.add_sub_cancel]
  refine ⟨?_, ?_, ?_⟩
  · rw [e1]
    simp [num]
    omega
  · rw [e1, List.cons_append, List.drop_succ_cons, List.drop_zero, List.append_assoc, List.take_left' l2, num_be, Nat.mod_eq_of_lt (by rw [show (256 : Nat) ^ 2 = 65536 from rfl]; omega)]
  · rw [e, List.cons_append, List.drop_succ_cons, List.append_assoc, List.drop_left' l2]
theorem decL_enc (b : Nat) (l : IL) (h : HOk b l) (s : List UInt8) : decL (ub (encL b l) ++ s) = some (b, l, s) := by
  have hl := h.len
  have hm := most_lt b h.bits
  obtain ⟨h1, h2, h3⟩ := enc_head b l h.bits hl (3 + l.length * 10) (by omega) s
  have ht : (ub (encL b l)).take (3 + l.length * 10) = ub (encL b l) := List.take_of_length_le (by rw [ub_length, encL_length]; omega)
  rw [ht] at h1 h2
  have hlen : (ub (encL b l) ++ s).length = 3 + l.length * 10 + s.length := by rw [List.length_append, ub_length, encL_length]
  unfold decL
  rw [h1, h2, h3, hlen, if_neg (by omega), if_neg (by have := h.bits; omega), if_neg (by omega),
    decI_enc b h.bits s l [] (-2147483649) h.item h.rise (fun x hx => by have := h.item x hx; omega) (fun y hy => by simp at hy) (by have := h.total; simp [total]; exact this)]
  rfl
theorem decL_cut (b : Nat) (l : IL) (h : HOk b l) (k : Nat) (hk : k < 3 + l.length * 10) : decL ((ub (encL b l)).take k) = none := by
  have hlen : ((ub (encL b l)).take k).length = k := by rw [List.length_take, ub_length, encL_length]; omega
  unfold decL
  rw [hlen]
  by_cases h3 : k < 3
  · rw [if_pos h3]
  · obtain ⟨h1, h2, _⟩ := enc_head b l h.bits h.len k (by omega) []
    rw [List.append_nil] at h1 h2
    rw [h1, h2, if_neg h3, if_neg (by have := h.bits; omega), if_pos (by omega)]
theorem len_le_total : ∀ (l : IL), (∀ x ∈ l, 1 ≤ x.2) → l.length ≤ total l
  | [], _ => Nat.zero_le _
  | x :: r, h => by
    have h1 := len_le_total r (fun y hy => h y (by simp [hy]))
    have h2 := h x (by simp)
    simp only [List.length_cons, total]
    omega
end Go.Proofs.Ytgafnilcmhjpcaa.HHist
