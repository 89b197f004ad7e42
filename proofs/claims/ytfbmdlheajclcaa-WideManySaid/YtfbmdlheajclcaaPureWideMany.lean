/- The plain law of WideMany. -/
import Derived.Test.YtfbmdlheajclcaaPrint2
import Derived.Test.YtfbmdlheajclcaaWidePlain
namespace Go.Proofs.Ytfbmdlheajclcaa.Pure
open Go.RowKit Go.Proofs.Ytfbmdlheajclcaa.Print Go.Proofs.Ytfbmdlheajclcaa.HWide Go.Proofs.YtfbmdlheajclcaaW.PrintWords Go.Proofs.YtfbmdlheajclcaaW.PrintLast

theorem rd_i32 (l : List Int) (h : ∀ x ∈ l, (Lit.int .i32 x).wf = true) (i : Int) : -2147483648 ≤ rd l i ∧ rd l i ≤ 2147483647 := by
  unfold rd
  rw [List.getD_eq_getElem?_getD]
  cases hg : l[i.toNat]? with
  | none => simp
  | some x =>
    have := h x (List.mem_of_getElem? hg)
    simpa [Lit.wf, IntKind.min, IntKind.max, IntKind.signed, IntKind.bits] using this

theorem many_end (k : Nat) (l : List Int) (n : Int) (i : Nat) (hn : -85899345920 ≤ n ∧ n ≤ 85899345920) :
    scantlinglaw02_WideMany.j1 (k + 1) l true n i false (nrm n).1 (nrm n).2 = some true := by
  unfold scantlinglaw02_WideMany.j1
  simp only [Bool.false_eq_true, if_false, if_true, of_is n (by omega), Option.bind_some, beq_self_eq_true, Bool.and_self, text_is n (by unfold Sm; omega)]

theorem many_round (k : Nat) (l : List Int) (h : ∀ x ∈ l, (Lit.int .i32 x).wf = true) (i : Nat) (n : Int) (h40 : i < 40) (h0 : -(i : Int) * 2147483648 ≤ n) (h1 : n ≤ (i : Int) * 2147483648) (hl : (i : Int) < (l.length : Int)) :
    ∃ n' : Int, -((i + 1 : Nat) : Int) * 2147483648 ≤ n' ∧ n' ≤ ((i + 1 : Nat) : Int) * 2147483648 ∧
    scantlinglaw02_WideMany.l0 (k + 2) l true n i (nrm n).1 (nrm n).2 = scantlinglaw02_WideMany.l0 k l true n' ((i + 1 : Nat) : Int) (nrm n').1 (nrm n').2 := by
  have hx := rd_i32 l h i
  have w1 : wrap64 (rd l (i : Int)) = rd l (i : Int) := by unfold wrap64; omega
  have w2 : wrap64 (n + rd l (i : Int)) = n + rd l (i : Int) := by unfold wrap64; omega
  have w3 : wrap64 ((i : Int) + 1) = ((i + 1 : Nat) : Int) := by unfold wrap64; omega
  refine ⟨n + rd l (i : Int), by omega, by omega, ?_⟩
  rw [scantlinglaw02_WideMany.l0, if_pos hl, show decide ((i : Int) < 40) = true by (simp; omega), scantlinglaw02_WideMany.j1, w1, of_is _ (by omega), if_pos rfl, if_pos (by omega), if_pos hl]
  simp only [Option.bind_some, add_is, w2, w3]

theorem many_over (k : Nat) (l : List Int) (i : Nat) (n : Int) (hn : -85899345920 ≤ n ∧ n ≤ 85899345920) (h : ¬ ((i : Int) < (l.length : Int) ∧ i < 40)) :
    scantlinglaw02_WideMany.l0 (k + 2) l true n i (nrm n).1 (nrm n).2 = some true := by
  rw [scantlinglaw02_WideMany.l0]
  by_cases hl : (i : Int) < (l.length : Int)
  · rw [if_pos hl, show decide ((i : Int) < 40) = false by (simp; omega)]
    exact many_end _ l n i hn
  · rw [if_neg hl]
    exact many_end _ l n i hn

theorem many_step (l : List Int) (h : ∀ x ∈ l, (Lit.int .i32 x).wf = true) (m : Nat) : ∀ (i : Nat) (n : Int), i + m = 40 → -(i : Int) * 2147483648 ≤ n → n ≤ (i : Int) * 2147483648 →
    scantlinglaw02_WideMany.l0 (2 * m + 2) l true n i (nrm n).1 (nrm n).2 = some true := by
  induction m with
  | zero =>
    intro i n him h0 h1
    exact many_over _ l i n (by omega) (by omega)
  | succ m ih =>
    intro i n him h0 h1
    by_cases hl : (i : Int) < (l.length : Int)
    · obtain ⟨n', a, b, e⟩ := many_round (2 * m + 2) l h i n (by omega) h0 h1 hl
      rw [show 2 * (m + 1) + 2 = 2 * m + 2 + 2 by omega, e]
      exact ih (i + 1) n' (by omega) a b
    · exact many_over _ l i n (by omega) (fun hh => hl hh.1)

theorem WideMany : scantlinglaw02_WideMany.Pure := by
  intro l _ _ hw
  refine ⟨82, ?_⟩
  unfold scantlinglaw02_WideMany.f
  simp only [scantlinglaw02_examples.f, Option.bind_some, if_true]
  have := many_step l hw 40 0 0 (by omega) (by omega) (by omega)
  rw [show nrm 0 = (0, 0) by decide +kernel] at this
  exact this

end Go.Proofs.Ytfbmdlheajclcaa.Pure
