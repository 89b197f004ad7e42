/- Cells: bytes that tell a sum, a least, or a most that can't be. Plain laws. Conditions: the cell is right. -/
import Derived.Test.YtgafnilcmhjpcaaCellOrderP
namespace Go.Proofs.Ytgafnilcmhjpcaa.HCell
set_option linter.unusedVariables false
open Go.RowKit Go.Proofs.Ytgafnilcmhjpcaa.HMem Go.Proofs.Ytgafnilcmhjpcaa.HHist Go.Proofs.Ytgafnilcmhjpcaa.HWide
open Go.Proofs.Ytgafnilcmhjpcaa.Print (I64)

theorem decC_any (c : CM) (ho : COk c) (z : List UInt8) : decC (ub (encC c) ++ z) = if rightC c then some (c, z) else none := by
  have hl := encC_length c ho
  unfold decC
  rw [if_neg (by rw [List.length_append, hl]; omega), encC_drop40 c ho z, decL_enc c.b c.l ho.h z]
  simp only []
  rw [rawC_enc c ho z]
theorem putN_length (a b : Int) : (ub (putN a b)).length = 16 := by rw [ub_length]; simp [putN]
theorem encC_ub (c : CM) : ub (encC c) = ub (be (u64of c.fr) 8) ++ (ub (putN c.s.1 c.s.2) ++ (ub (be (u64of c.lo) 8) ++ (ub (be (u64of c.hi) 8) ++ ub (encL c.b c.l)))) := by
  unfold encC
  simp only [ub_append, List.append_assoc]
theorem drop_app {α : Type} {a b : List α} {n m : Nat} (h : a.length = n) (hm : n ≤ m) : (a ++ b).drop m = b.drop (m - n) := by
  rw [List.drop_append, h, List.drop_eq_nil_of_le (by omega), List.nil_append]
theorem encC_sum (c : CM) (k : Int × Int) : ((ub (encC c)).take 8 ++ ub (putN k.1 k.2)) ++ (ub (encC c)).drop 24 = ub (encC { c with s := k }) := by
  rw [encC_ub c, encC_ub { c with s := k }, List.take_left' (ub8_length _), drop_app (ub8_length _) (by decide), drop_app (putN_length _ _) (by decide)]
  simp only [Nat.reduceSub, List.drop_zero, List.append_assoc]
theorem encC_swap (c : CM) : (((ub (encC c)).take 24 ++ ((ub (encC c)).drop 32).take 8) ++ ((ub (encC c)).drop 24).take 8) ++ (ub (encC c)).drop 40 = ub (encC { c with lo := c.hi, hi := c.lo }) := by
  have l8 := ub8_length
  have e1 : (ub (encC c)).take 24 = ub (be (u64of c.fr) 8) ++ ub (putN c.s.1 c.s.2) := by
    rw [encC_ub c, ← List.append_assoc]
    exact List.take_left' (by rw [List.length_append, l8, putN_length])
  have e2 : (ub (encC c)).drop 24 = ub (be (u64of c.lo) 8) ++ (ub (be (u64of c.hi) 8) ++ ub (encL c.b c.l)) := by
    rw [encC_ub c, drop_app (l8 _) (by decide), drop_app (putN_length _ _) (by decide)]
    rfl
  have e3 : (ub (encC c)).drop 32 = ub (be (u64of c.hi) 8) ++ ub (encL c.b c.l) := by
    rw [show (32 : Nat) = 24 + 8 from rfl, ← List.drop_drop, e2, List.drop_left' (l8 _)]
  have e4 : (ub (encC c)).drop 40 = ub (encL c.b c.l) := by
    rw [show (40 : Nat) = 32 + 8 from rfl, ← List.drop_drop, e3, List.drop_left' (l8 _)]
  rw [e1, e2, e3, e4, List.take_left' (l8 _), List.take_left' (l8 _), encC_ub { c with lo := c.hi, hi := c.lo }]
  simp only [List.append_assoc]
theorem timesC_val {c : CM} (ho : COk c) (a : Int) (ha : I64 a) : HWide.val (timesC a (HHist.total c.l)).1 (timesC a (HHist.total c.l)).2 = a * (HHist.total c.l : Nat) := by
  have := prod_bound a _ ha ho.h.total
  exact val_nrm _ (by omega)
/-- A sum above what may be. -/
theorem right_high {c : CM} {v : Int} (h : Good c v) (hl : c.l ≠ []) (x : Int) (hx : c.hi * (HHist.total c.l : Nat) < x) (hb : x < 170141183460469231731687303715884105728) : rightC { c with s := nrm x } = false := by
  have b1 := prod_bound c.hi _ h.ok.hi h.ok.h.total
  have e := timesC_val h.ok c.hi h.ok.hi
  unfold rightC
  rw [if_neg (fun e => hl (List.length_eq_zero_iff.1 e))]
  show (_ && (_ && (_ && (_ && !decide (HWide.val (timesC c.hi (HHist.total c.l)).1 (timesC c.hi (HHist.total c.l)).2 < HWide.val (nrm x).1 (nrm x).2))))) = false
  rw [e, val_nrm x (by omega), decide_eq_true hx]
  simp
/-- A sum below what may be. -/
theorem right_low {c : CM} {v : Int} (h : Good c v) (hl : c.l ≠ []) (x : Int) (hx : x < c.lo * (HHist.total c.l : Nat)) (hb : -170141183460469231731687303715884105728 ≤ x) : rightC { c with s := nrm x } = false := by
  have b1 := prod_bound c.lo _ h.ok.lo h.ok.h.total
  have e := timesC_val h.ok c.lo h.ok.lo
  unfold rightC
  rw [if_neg (fun e => hl (List.length_eq_zero_iff.1 e))]
  show (_ && (_ && (_ && (!decide (HWide.val (nrm x).1 (nrm x).2 < HWide.val (timesC c.lo (HHist.total c.l)).1 (timesC c.lo (HHist.total c.l)).2) && _)))) = false
  rw [e, val_nrm x (by omega), decide_eq_true hx]
  simp
/-- The least and the most turned round. -/
theorem right_swap {c : CM} {v : Int} (h : Good c v) (hl : c.l ≠ []) : rightC { c with lo := c.hi, hi := c.lo } = decide (c.lo = c.hi) := by
  have hle := (h.some hl).1
  by_cases e : c.lo = c.hi
  · have : ({ c with lo := c.hi, hi := c.lo } : CM) = c := by
      obtain ⟨fr, s, lo, hi, b, l⟩ := c
      simp only at e
      subst e
      rfl
    rw [this, h.right, decide_eq_true e]
  · rw [decide_eq_false e]
    unfold rightC
    rw [if_neg (fun e => hl (List.length_eq_zero_iff.1 e))]
    show (decide (c.hi ≤ c.lo) && _) = false
    rw [decide_eq_false (by omega)]
    rfl
theorem ok_sum {c : CM} (h : COk c) (x : Int) : COk { c with s := nrm x } := ⟨h.h, nrm_rng x, h.fr, h.lo, h.hi⟩
theorem ok_swap {c : CM} (h : COk c) : COk { c with lo := c.hi, hi := c.lo } := ⟨h.h, h.rng, h.fr, h.hi, h.lo⟩
theorem sum_step (a b : Int) (ha : -10141204801825835211973625643008 ≤ a ∧ a ≤ 10141204801825835211973625643008) (hb : -10141204801825835211973625643008 ≤ b ∧ b ≤ 10141204801825835211973625643008) : nrm (val (nrm a).1 (nrm a).2 + val (nrm b).1 (nrm b).2) = nrm (a + b) := by
  rw [val_nrm a (by omega), val_nrm b (by omega)]
end Go.Proofs.Ytgafnilcmhjpcaa.HCell
