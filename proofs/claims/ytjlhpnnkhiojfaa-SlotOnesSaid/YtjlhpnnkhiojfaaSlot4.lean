/- The slot table: clean, walked. -/
import Derived.Test.YtjlhpnnkhiojfaaSlot3
import Derived.Deep.MidRow
namespace Go.Proofs.Ytjlhpnnkhiojfaa.HSlot
set_option linter.unusedVariables false
open Go.RowKit Go.Proofs.Ytjlhpnnkhiojfaa.Print Go.Proofs.Ytjlhpnnkhiojfaa.HSip Go.Proofs.YtjlhpnnkhiojfaaW.PrintWords Go.Proofs.YtjlhpnnkhiojfaaW.PrintLast Go.Proofs.YtjlhpnnkhiojfaaW.PrintMore

def TB.free (t : TB) : TB := { t with idx := fun _ => 0 }
/-- The index built anew, up to slot k. -/
def cl (t : TB) : Nat → TB
  | 0 => t
  | k + 1 => if (cl t k).keys k = ⟨#[]⟩ then cl t k else (cl t k).si (pAt (cl t k) ((cl t k).keys k)) (k + 1)
def cleanT (t : TB) : TB := if t.many + t.dead < 384 then t else cl (t.free.sd 0) t.room.toNat
theorem cl_keys (t : TB) : ∀ k, (cl t k).keys = t.keys ∧ (cl t k).room = t.room ∧ (cl t k).many = t.many ∧ (cl t k).dead = t.dead
  | 0 => ⟨rfl, rfl, rfl, rfl⟩
  | k + 1 => by
    have ih := cl_keys t k
    unfold cl
    split
    · exact ih
    · exact ih
theorem cl_fine (t : TB) (h : Fine t) : ∀ k, k ≤ 256 → Fine (cl t k)
  | 0, _ => h
  | k + 1, hk => by
    have ih := cl_fine t h k (by omega)
    unfold cl
    split
    · exact ih
    · intro p hp
      show (if p = _ then _ else _) = 0 ∨ (if p = _ then _ else _) = -1 ∨ (1 ≤ (if p = _ then _ else _) ∧ (if p = _ then _ else _) ≤ 256)
      split
      · right; right; omega
      · exact ih p hp
def Sized (t : TB) : Prop := ∀ i, i < 256 → (t.keys i).size ≤ 140737488355328

theorem setCells_at : ∀ (l : List Value) (w : World) (b o : Nat) (cs : Array Value) (ty : TypeId), w.heap[b]? = some (.cells cs ty (0, 0)) → o + l.length ≤ cs.size →
    ∃ cs' : Array Value, (w.setCells b o l).heap[b]? = some (.cells cs' ty (0, 0)) ∧ cs'.size = cs.size ∧ (∀ i, i < o → cs'[i]? = cs[i]?) ∧ (∀ i, o + l.length ≤ i → cs'[i]? = cs[i]?) ∧ (∀ j, j < l.length → cs'[o + j]? = l[j]?) ∧ Upd b w (w.setCells b o l)
  | [], w, b, o, cs, ty, h, _ => ⟨cs, h, rfl, fun _ _ => rfl, fun _ _ => rfl, fun j hj => by simp at hj, Upd.refl _ _⟩
  | v :: r, w, b, o, cs, ty, h, hl => by
    simp only [List.length_cons] at hl
    obtain ⟨cs', h1, h2, h3, h4, h5, h6⟩ := setCells_at r (w.setCell ⟨b, o, none⟩ v) b (o + 1) _ ty (set_at h o v) (by simp; omega)
    refine ⟨cs', h1, by simpa using h2, fun i hi => ?_, fun i hi => ?_, fun j hj => ?_, (Upd.set0 b w o v).trans h6⟩
    · rw [h3 i (by omega), get_set _ _ _ (by omega), if_neg (by omega)]
    · simp only [List.length_cons] at hi
      rw [h4 i (by omega), get_set _ _ _ (by omega), if_neg (by omega)]
    · cases j with
      | zero => rw [Nat.add_zero, h3 o (by omega), get_set _ _ _ (by omega), if_pos rfl]; rfl
      | succ j =>
        simp only [List.length_cons] at hj
        rw [show o + (j + 1) = o + 1 + j by omega, h5 j (by omega)]
        rfl
def Z512 : Array Value := Array.replicate 512 (.int .i64 0)
theorem zero512 (w : World) : (zeroValue 55).run Try.prog w = .ok (.agg Z512) w := by kernel_rfl
theorem TAt.frees {w : World} {b : Nat} {t : TB} (h : TAt w b t) : (storeCells ⟨b, 256, none⟩ Z512.toList).run Try.prog w = .ok () (w.setCells b 256 Z512.toList) ∧ TAt (w.setCells b 256 Z512.toList) b t.free ∧ Upd b w (w.setCells b 256 Z512.toList) := by
  obtain ⟨cs, h1, h2, h3, h4, h5, h6, h7⟩ := h.ex
  have hz : Z512.size = 512 := by unfold Z512; simp
  have hl : Z512.toList.length = 512 := by rw [Array.length_toList, hz]
  obtain ⟨cs', k1, k2, k3, k4, k5, k6⟩ := setCells_at Z512.toList w b 256 cs _ h1 (by omega)
  have ht : ∀ j, j < 512 → w.cell? ⟨b, 256 + j, none⟩ = some (.int .i64 (t.idx j)) ∧ w.frozen? ⟨b, 256 + j, none⟩ = false := fun j hj => cell_of h1 (h4 j hj)
  have hs := run_storeCells_cells (P := Try.prog) b 256 Z512.toList 0 w (fun j hj => by rw [Nat.add_zero, (ht j (by omega)).1]; rfl) (fun j hj => by rw [Nat.add_zero]; exact (ht j (by omega)).2) (fun v hv => (Array.all_eq_true_iff_forall_mem.1 (show Z512.all (·.oneCell') = true by kernel_rfl)) v (by simpa using hv))
  refine ⟨hs, ⟨cs', k1, by omega, fun i hi => ?_, fun p hp => ?_, ?_, ?_, ?_⟩, k6⟩
  · rw [k3 i (by omega)]; exact h3 i hi
  · rw [k5 p (by omega)]
    rw [Array.getElem?_toList, Z512, Array.getElem?_replicate, if_pos hp]
    rfl
  · rw [k4 768 (by omega)]; exact h5
  · rw [k4 769 (by omega)]; exact h6
  · rw [k4 770 (by omega)]; exact h7

end Go.Proofs.Ytjlhpnnkhiojfaa.HSlot
