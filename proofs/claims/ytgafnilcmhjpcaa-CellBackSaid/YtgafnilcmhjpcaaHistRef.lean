/- The reference's histogram, walked: the object; New, Count. -/
import Derived.Test.YtgafnilcmhjpcaaHistUse
namespace Go.Proofs.Ytgafnilcmhjpcaa.HHist
set_option linter.unusedVariables false
open Go.RowKit Go.Proofs.Ytgafnilcmhjpcaa.HMem Go.Proofs.Ytgafnilcmhjpcaa.HBucket
open Go.Proofs.Ytgafnilcmhjpcaa.Print (I64)

/-- The reference's histogram: its bits, its items. -/
structure RHistAt (w : World) (p : Nat) (G : List Nat) (bits : Int) (l : IL) : Prop where
  ex : ∃ v R, G = p :: R ∧ p ∉ R ∧ w.heap[p]? = some (.cells #[.int .i64 bits, v] 109 (0, 0)) ∧ Row 111 2 w v l.length (flat l) R
section
variable {w w' : World} {p : Nat} {G : List Nat} {bits : Int} {l : IL}
theorem RHistAt.same (h : RHistAt w p G bits l) (s : Same G w w') : RHistAt w' p G bits l := by
  obtain ⟨v, R, rfl, h1, h2, h3⟩ := h.ex
  exact ⟨v, R, rfl, h1, by rw [s p (by simp)]; exact h2, h3.same (s.sub fun k hk => by simp [hk])⟩
theorem RHistAt.own (h : RHistAt w p G bits l) : Own 0 w G := by
  obtain ⟨v, R, rfl, h1, h2, h3⟩ := h.ex
  exact ⟨List.nodup_cons.2 ⟨h1, h3.own.nodup⟩, fun g hg => by
    rcases List.mem_cons.1 hg with rfl | hg
    · exact ⟨Nat.zero_le _, heap_lt h2⟩
    · exact h3.own.mem g hg⟩
theorem RHistAt.mono (h : RHistAt w p G bits l) (b : Below w.heap.size w w') : RHistAt w' p G bits l := h.same (Same.own b h.own)
theorem RHistAt.cells (h : RHistAt w p G bits l) : w.cell? ⟨p, 0, none⟩ = some (.int .i64 bits) ∧
    ∃ v R, G = p :: R ∧ p ∉ R ∧ w.cell? ⟨p, 1, none⟩ = some v ∧ Row 111 2 w v l.length (flat l) R := by
  obtain ⟨v, R, rfl, h1, h2, h3⟩ := h.ex
  exact ⟨by simp [World.cell?, h2], v, R, rfl, h1, by simp [World.cell?, h2], h3⟩
end
theorem rNew_yes (b : Nat) (w : World) (hb : b ≤ 4) :
    Calls Try.prog 39 #[.int .i64 b] w fun e w' => e = .returned (.pointer (some ⟨w.heap.size, 0, none⟩)) ∧ (RHistAt w' w.heap.size [w.heap.size] b [] ∧ Below w.heap.size w w') := by
  have h1 : ¬ (b : Int) < 0 := by omega
  have h2 : decide ((4 : Int) < (b : Int)) = false := by simp; omega
  go_enter Try.func39, Try.ntmps39
  go_wp2
  go_ret
  refine ⟨rfl, ⟨_, [], rfl, by simp, heap_alloc_new w _, Row.nil _ _ _⟩, (Below.refl _ _).alloc (Nat.le_refl _) _⟩
theorem rNew_no (b : Int) (w : World) (hb : b < 0 ∨ 4 < b) :
    Calls Try.prog 39 #[.int .i64 b] w fun e w' => e = .returned (.pointer none) ∧ w = w' := by
  rcases hb with hb | hb
  · go_enter Try.func39, Try.ntmps39
    go_wp2
    go_ret
    exact ⟨rfl, rfl⟩
  · have h1 : ¬ b < 0 := by omega
    have h2 : decide ((4 : Int) < b) = true := by simp; omega
    go_enter Try.func39, Try.ntmps39
    go_wp2
    go_ret
    exact ⟨rfl, rfl⟩
theorem total_step (l : IL) (j : Nat) (x : Int × Nat) (hx : l[j]? = some x) : total (l.take (j + 1)) = total (l.take j) + x.2 := by
  rw [List.take_add_one, hx, total_append]
  simp [total]
theorem total_take_le (l : IL) (j : Nat) : total (l.take j) ≤ total l := by
  have h1 := total_append (l.take j) (l.drop j)
  rw [List.take_append_drop] at h1
  omega
theorem rCount_any {w : World} {p : Nat} {G : List Nat} {b : Int} {l : IL} (h : RHistAt w p G b l) (hl : l.length ≤ 4294967296) (ht : total l < 18446744073709551616) :
    Calls Try.prog 41 #[.pointer (some ⟨p, 0, none⟩)] w fun e w' => e = .returned (.int .u64 (total l : Nat)) ∧ w = w' := by
  obtain ⟨c0, v, R, _, _, c1, hr⟩ := h.cells
  clear h
  obtain ⟨ba, cap, rfl, _⟩ := hr.form
  obtain ⟨n, hn⟩ : ∃ n, n = l.length := ⟨_, rfl⟩
  rw [← hn] at hr hl c1
  have HN := Lib.hid hn
  have RR := Lib.hid hr
  have HT := Lib.hid ht
  clear hr hn ht
  go_enter Try.func41, Try.ntmps41
  go_wp2_with fail
  go_loopw [3, 4] (fun x y wr => ∃ j : Nat, x = .int .u64 (total (l.take j) : Nat) ∧ y = .int .i64 j ∧ j ≤ n ∧ w = wr) (fun _ y _ => n - (intOf y).toNat)
  case atStart => exact ⟨0, rfl, rfl, Nat.zero_le _, rfl⟩
  case round =>
    obtain ⟨j, rfl, rfl, hj, rfl⟩ := hrel
    rcases Nat.lt_or_ge j n with hlt | hge
    · have hj1 : (j : Int) < n := by omega
      obtain ⟨x, hx⟩ : ∃ x, l[j]? = some x := ⟨_, List.getElem?_eq_getElem (by rw [← HN.out]; exact hlt)⟩
      obtain ⟨g, off, cap', e1, _, _, _, hc⟩ := RR.out.there (by omega)
      cases e1
      have d1 := (hc _ _ (flat_get l j x hx).2).1
      rw [← Nat.add_assoc] at d1
      have HST := Lib.hid (total_step l j x hx)
      have hst : total (l.take j) + x.2 < 18446744073709551616 := by
        rw [← HST.out]; have := total_take_le l (j + 1); have := HT.out; omega
      obtain ⟨y, hy⟩ : ∃ y, y = total (l.take j) := ⟨_, rfl⟩
      rw [← hy] at hst HST ⊢
      have hst' : (y : Int) + (x.2 : Int) < 18446744073709551616 := by omega
      have hlt' := Lib.hid hlt
      clear hc hx hlt hy
      go_wp2
      go_roundw
      case rel => exact ⟨j + 1, by rw [HST.out]; go_num, by go_num, hlt'.out, by first | rfl | trivial⟩
      case measure => have := hlt'.out; simp [intOf]; omega
    · have hj1 : ¬ (j : Int) < n := by omega
      have EJ := Lib.hid (show l.take j = l from List.take_of_length_le (by have := HN.out; omega))
      clear hge
      go_wp2
      go_ret
      exact ⟨by first | rfl | (simp only [EJ.out]; rfl), rfl⟩
end Go.Proofs.Ytgafnilcmhjpcaa.HHist
