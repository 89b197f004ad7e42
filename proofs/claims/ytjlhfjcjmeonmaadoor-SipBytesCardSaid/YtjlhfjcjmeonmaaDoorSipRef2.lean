/- The document's own Sum against sumN. -/
import Derived.Test.YtjlhfjcjmeonmaaDoorSipRef
namespace Go.Proofs.YtjlhfjcjmeonmaaDoor.HSip
open Go.RowKit Go.Proofs.YtjlhfjcjmeonmaaDoor.Print Go.Proofs.YtjlhfjcjmeonmaaDoorW.PrintWords Go.Proofs.YtjlhfjcjmeonmaaDoorW.PrintLast Go.Proofs.YtjlhfjcjmeonmaaDoorW.PrintMore

theorem wordF_app : ∀ (l : List UInt8) (c : UInt8), wordF (l ++ [c]) = wordF l + c.toNat * 256 ^ l.length
  | [], c => by simp [wordF]
  | b :: r, c => by
    have := wordF_app r c
    simp only [List.cons_append, wordF, this, List.length_cons, Nat.pow_succ]
    rw [Nat.mul_add, ← Nat.mul_assoc, Nat.mul_comm 256 c.toNat, Nat.mul_assoc, Nat.mul_comm 256 (256 ^ r.length)]
    omega
theorem abs_zero (v : S4) (l : List UInt8) : ∀ q, (absTo v l (8 * q)).2 = 0
  | 0 => rfl
  | q + 1 => by
    rw [show 8 * (q + 1) = (8 * q + 7) + 1 by omega, absTo]
    simp only [show (8 * q + 7) % 8 = 7 by omega, if_true]
theorem or_word (l : List UInt8) (c : UInt8) (h : l.length < 8) : wordF l ||| (c.toNat * 2 ^ (8 * l.length) % M64) = wordF (l ++ [c]) := by
  have hl := wordF_lt l
  have hc := c.toNat_lt
  have e : 256 ^ l.length = 2 ^ (8 * l.length) := by rw [Nat.pow_mul]
  rw [e] at hl
  have hm : c.toNat * 2 ^ (8 * l.length) < M64 := by
    have h1 : 2 ^ (8 * l.length) ≤ 2 ^ 56 := Nat.pow_le_pow_right (by decide) (by omega)
    have h2 : c.toNat * 2 ^ (8 * l.length) ≤ 255 * 2 ^ 56 := Nat.mul_le_mul (by omega) h1
    exact Nat.lt_of_le_of_lt h2 (by decide)
  rw [Nat.mod_eq_of_lt hm, wordF_app, e, Nat.or_comm, Nat.mul_comm, ← Nat.two_pow_add_eq_or_of_lt hl]
  omega
theorem abs_part (v : S4) (l : List UInt8) (q : Nat) : ∀ j, j ≤ 7 → 8 * q + j ≤ l.length → absTo v l (8 * q + j) = ((absTo v l (8 * q)).1, wordF ((l.drop (8 * q)).take j))
  | 0, _, _ => by
    show absTo v l (8 * q) = _
    have := abs_zero v l q
    simp only [List.take_zero, wordF]
    rw [← this]
  | j + 1, hj, hl => by
    have ih := abs_part v l q j (by omega) (by omega)
    rw [show 8 * q + (j + 1) = (8 * q + j) + 1 by omega, absTo]
    simp only [show (8 * q + j) % 8 = j by omega, ih]
    rw [if_neg (by omega)]
    have hlt : 8 * q + j < l.length := by omega
    have hlen : ((l.drop (8 * q)).take j).length = j := by simp; omega
    have := or_word ((l.drop (8 * q)).take j) (l.getD (8 * q + j) 0) (by omega)
    rw [hlen] at this
    rw [this]
    congr 2
    rw [List.take_add_one, List.getElem?_drop, List.getD_eq_getElem?_getD, List.getElem?_eq_getElem hlt]
    rfl
theorem abs_chunk (v : S4) (l : List UInt8) (q : Nat) (hl : 8 * q + 8 ≤ l.length) : absTo v l (8 * (q + 1)) = (mixN (absTo v l (8 * q)).1 (wordF ((l.drop (8 * q)).take 8)), 0) := by
  have ih := abs_part v l q 7 (by omega) (by omega)
  rw [show 8 * (q + 1) = (8 * q + 7) + 1 by omega, absTo]
  simp only [show (8 * q + 7) % 8 = 7 by omega, ih, if_true]
  have hlt : 8 * q + 7 < l.length := by omega
  have hlen : ((l.drop (8 * q)).take 7).length = 7 := by simp; omega
  have := or_word ((l.drop (8 * q)).take 7) (l.getD (8 * q + 7) 0) (by omega)
  rw [hlen] at this
  rw [this]
  congr 3
  rw [List.take_add_one (i := 7), List.getElem?_drop, List.getD_eq_getElem?_getD, List.getElem?_eq_getElem hlt]
  rfl

end Go.Proofs.YtjlhfjcjmeonmaaDoor.HSip
