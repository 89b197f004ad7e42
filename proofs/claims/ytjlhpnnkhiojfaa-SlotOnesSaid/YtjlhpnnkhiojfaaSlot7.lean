/- The slot table: New, Slots, walked. -/
import Derived.Test.YtjlhpnnkhiojfaaSlot6
namespace Go.Proofs.Ytjlhpnnkhiojfaa.HSlot
set_option linter.unusedVariables false
open Go.RowKit Go.Proofs.Ytjlhpnnkhiojfaa.Print Go.Proofs.Ytjlhpnnkhiojfaa.HSip Go.Proofs.YtjlhpnnkhiojfaaW.PrintWords Go.Proofs.YtjlhpnnkhiojfaaW.PrintLast Go.Proofs.YtjlhpnnkhiojfaaW.PrintMore

def newT (room : Int) : TB := ⟨fun _ => ⟨#[]⟩, fun _ => 0, room, 0, 0⟩
def Z771 : Array Value := Array.replicate 256 (.string ⟨#[]⟩) ++ Array.replicate 512 (.int .i64 0) ++ #[.int .i64 0, .int .i64 0, .int .i64 0]
theorem zero771 (w : World) : (zeroValue 57).run Try.prog w = .ok (.agg Z771) w := by kernel_rfl
theorem Z771_size : Z771.size = 771 := by unfold Z771; simp
theorem new_at (w : World) (room : Int) (c : Array Value) (hc : c = Z771.setIfInBounds 768 (.int .i64 room)) : TAt (w.alloc (.cells c 57)) w.heap.size (newT room) := by
  have hz := Z771_size
  refine ⟨⟨c, ?_, by rw [hc]; simpa using hz, fun i hi => ?_, fun p hp => ?_, ?_, ?_, ?_⟩⟩
  · show (w.heap.push _)[w.heap.size]? = _
    rw [Array.getElem?_push_size]
  · rw [hc, get_set _ _ _ (by omega), if_neg (by omega)]
    unfold Z771
    rw [Array.getElem?_append_left (by simp; omega), Array.getElem?_append_left (by simpa using hi), Array.getElem?_replicate, if_pos hi]
    rfl
  · rw [hc, get_set _ _ _ (by omega), if_neg (by omega)]
    unfold Z771
    rw [Array.getElem?_append_left (by simp; omega), Array.getElem?_append_right (by simp), Array.getElem?_replicate, if_pos (by simp; omega)]
    rfl
  · rw [hc, get_set _ _ _ (by omega), if_pos rfl]; rfl
  · rw [hc, get_set _ _ _ (by omega), if_neg (by omega)]
    unfold Z771
    rw [Array.getElem?_append_right (by simp)]
    simp [newT]
  · rw [hc, get_set _ _ _ (by omega), if_neg (by omega)]
    unfold Z771
    rw [Array.getElem?_append_right (by simp)]
    simp [newT]

set_option maxRecDepth 20000 in
theorem New_yes (w : World) (room : Int) (hr : 1 ≤ room ∧ room ≤ 256) :
    Calls Try.prog 8 #[.int .i64 room] w fun e w' => e = .returned (.tuple #[.pointer (some ⟨w.heap.size, 0, none⟩), .int .i64 0]) ∧ (TAt w' w.heap.size (newT room) ∧ Below w.heap.size w w') := by
  have h1 : ¬ room < 1 := by omega
  have h2 : ¬ (256 : Int) < room := by omega
  have zz := zero771
  have hZs := Z771_size
  obtain ⟨c, hc⟩ : ∃ c, c = Z771.setIfInBounds 768 (.int .i64 room) := ⟨_, rfl⟩
  have HN := Lib.hid (new_at w room c hc)
  obtain ⟨Z, hZ⟩ : ∃ Z, Z = Z771 := ⟨_, rfl⟩
  simp only [← hZ] at zz
  rw [← hZ] at hZs hc
  have hlt : ¬ Z.size < 769 := by omega
  have hc' := hc.symm
  clear hZ hc
  go_enter Try.func8, Try.ntmps8
  go_wp2
  go_ret2
  exact ⟨rfl, HN.out, (Below.refl _ _).alloc (Nat.le_refl _) _⟩
theorem New_no (w : World) (room : Int) (hr : room < 1 ∨ 256 < room) :
    Calls Try.prog 8 #[.int .i64 room] w fun e w' => e = .returned (.tuple #[.pointer none, .int .i64 1]) ∧ w' = w := by
  rcases hr with hr | hr
  · go_enter Try.func8, Try.ntmps8
    go_wp2
    go_ret2
    exact ⟨rfl, rfl⟩
  · have h1 : ¬ room < 1 := by omega
    go_enter Try.func8, Try.ntmps8
    go_wp2
    go_ret2
    exact ⟨rfl, rfl⟩

end Go.Proofs.Ytjlhpnnkhiojfaa.HSlot
