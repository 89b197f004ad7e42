/- Histograms: New, Bits, Count, Items, Add, Merge, walked. -/
import Derived.Test.YtgafnilcmhjpcaaHist2
import Derived.Test.YtgafnilcmhjpcaaItmCln
import Derived.Test.YtgafnilcmhjpcaaBkPlain
namespace Go.Proofs.Ytgafnilcmhjpcaa.HHist
set_option linter.unusedVariables false
open Go.RowKit Go.Proofs.Ytgafnilcmhjpcaa.HMem Go.Proofs.Ytgafnilcmhjpcaa.HBucket
open Go.Proofs.Ytgafnilcmhjpcaa.Print (I64)

/-- What a histogram of so many bits may hold. -/
structure HOk (b : Nat) (l : IL) : Prop where
  bits : b ≤ 4
  rise : Rise l
  total : total l ≤ 1099511627776
  item : ∀ x ∈ l, 1 ≤ x.2 ∧ -(mostN b : Int) - 1 ≤ x.1 ∧ x.1 ≤ mostN b
theorem rise_len : ∀ (l : IL) (lo hi : Int), Rise l → (∀ x ∈ l, lo ≤ x.1 ∧ x.1 ≤ hi) → l ≠ [] → (l.length : Int) ≤ hi - lo + 1
  | [], lo, hi, h, hx, hn => absurd rfl hn
  | x :: r, lo, hi, h, hx, _ => by
    have h1 := hx x (by simp)
    by_cases e : r = []
    · subst e; simp; omega
    · have := rise_len r (x.1 + 1) hi h.tail (fun y hy => ⟨by have := h.head y hy; omega, (hx y (by simp [hy])).2⟩) e
      simp; omega
theorem HOk.len {b : Nat} {l : IL} (h : HOk b l) : l.length ≤ 2113 := by
  by_cases e : l = []
  · subst e; simp
  · have := rise_len l _ _ h.rise (fun x hx => (h.item x hx).2) e
    have := most_lt b h.bits
    omega
theorem HOk.nil {b : Nat} (hb : b ≤ 4) : HOk b [] := ⟨hb, List.Pairwise.nil, by simp [HHist.total], fun x h => by simp at h⟩
theorem mem_moreL2 : ∀ (l : IL) (a : Int) (m : Nat) (y : Int × Nat), y ∈ moreL l a m → (y.1 = a ∧ m ≤ y.2) ∨ y ∈ l
  | [], a, m, y, h => by simp [moreL] at h; subst h; exact .inl ⟨rfl, Nat.le_refl _⟩
  | x :: r, a, m, y, h => by
    unfold moreL at h
    split at h
    · rcases List.mem_cons.1 h with rfl | h
      · exact .inr (by simp)
      · exact (mem_moreL2 r a m y h).imp id (List.mem_cons_of_mem _)
    · split at h
      · rcases List.mem_cons.1 h with rfl | h
        · exact .inl ⟨rfl, Nat.le_add_left _ _⟩
        · exact .inr (List.mem_cons_of_mem _ h)
      · rcases List.mem_cons.1 h with rfl | h
        · exact .inl ⟨rfl, Nat.le_refl _⟩
        · exact .inr h
theorem HOk.more {b : Nat} {l : IL} (h : HOk b l) {a : Int} {m : Nat} (hm : 1 ≤ m) (ht : HHist.total l + m ≤ 1099511627776) (ha : -(mostN b : Int) - 1 ≤ a ∧ a ≤ mostN b) : HOk b (moreL l a m) :=
  ⟨h.bits, h.rise.more l a m, by rw [total_moreL]; exact ht, fun x hx => by
    rcases mem_moreL2 l a m x hx with ⟨h1, h2⟩ | h1
    · rw [h1]; exact ⟨by omega, ha⟩
    · exact h.item x h1⟩

/-- A number is added: what the histogram holds then, and the error. -/
def addL (b : Nat) (l : IL) (n : Int) : IL × Int := if 1099511627776 ≤ total l then (l, 7) else (moreL l (ofZ b n) 1, 0)
theorem HOk.add {b : Nat} {l : IL} (h : HOk b l) {n : Int} (hn : I64 n) : HOk b (addL b l n).1 := by
  unfold addL
  split
  · exact h
  · exact h.more (Nat.le_refl _) (by omega) (ofZ_range b n h.bits hn.1 hn.2)
/-- The items of one are added to another, one by one. -/
def foldL (l : IL) : IL → IL
  | [] => l
  | x :: r => foldL (moreL l x.1 x.2) r
theorem total_foldL : ∀ (m l : IL), total (foldL l m) = total l + total m
  | [], l => by simp [foldL, total]
  | x :: r, l => by rw [foldL, total_foldL r, total_moreL]; simp [total]; omega
theorem HOk.fold {b : Nat} : ∀ (m l : IL), HOk b l → HHist.total l + HHist.total m ≤ 1099511627776 → (∀ x ∈ m, 1 ≤ x.2 ∧ -(mostN b : Int) - 1 ≤ x.1 ∧ x.1 ≤ mostN b) → HOk b (foldL l m)
  | [], l, h, ht, hm => h
  | x :: r, l, h, ht, hm => by
    simp only [HHist.total] at ht
    refine HOk.fold r _ (h.more (hm x (by simp)).1 (by omega) (hm x (by simp)).2) ?_ (fun y hy => hm y (by simp [hy]))
    rw [total_moreL]; omega
def mergeL (b : Nat) (l : IL) (c : Nat) (m : IL) : IL × Int := if c ≠ b then (l, 1) else if 1099511627776 - total l < total m then (l, 7) else (foldL l m, 0)
theorem HOk.merge {b c : Nat} {l m : IL} (h : HOk b l) (k : HOk c m) : HOk b (mergeL b l c m).1 := by
  unfold mergeL
  split
  · exact h
  · rename_i e
    have e' : c = b := by omega
    subst e'
    split
    · exact h
    · exact HOk.fold m l h (by have := h.total; omega) k.item

/-- The histogram p turned, and so much was answered. -/
def HRes (w : World) (p : Nat) (G : List Nat) (b : Nat) (l : IL) (v : Value) (e : Ending) (w' : World) : Prop := e = .returned v ∧ ∃ G', HistAt w' p G' b l ∧ Turn G G' w w'

theorem New_yes (b : Nat) (w : World) (hb : b ≤ 4) :
    Calls Try.prog 56 #[.int .i64 b] w fun e w' => e = .returned (.tuple #[.pointer (some ⟨w.heap.size, 0, none⟩), .int .i64 0]) ∧ (HistAt w' w.heap.size [w.heap.size] b [] ∧ Below w.heap.size w w') := by
  have h1 : ¬ (b : Int) < 0 := by omega
  have h2 : decide ((4 : Int) < (b : Int)) = false := by simp; omega
  go_enter Try.func56, Try.ntmps56
  go_wp2
  go_ret2
  refine ⟨rfl, ⟨_, [], rfl, by simp, heap_alloc_new w _, Row.nil _ _ _⟩, (Below.refl _ _).alloc (Nat.le_refl _) _⟩
theorem New_no (b : Int) (w : World) (hb : b < 0 ∨ 4 < b) :
    Calls Try.prog 56 #[.int .i64 b] w fun e w' => e = .returned (.tuple #[.pointer none, .int .i64 1]) ∧ w = w' := by
  rcases hb with hb | hb
  · go_enter Try.func56, Try.ntmps56
    go_wp2
    go_ret2
    exact ⟨rfl, rfl⟩
  · have h1 : ¬ b < 0 := by omega
    have h2 : decide ((4 : Int) < b) = true := by simp; omega
    go_enter Try.func56, Try.ntmps56
    go_wp2
    go_ret2
    exact ⟨rfl, rfl⟩
theorem HistAt.cells {w : World} {p : Nat} {G : List Nat} {b : Int} {l : IL} (h : HistAt w p G b l) : w.cell? ⟨p, 0, none⟩ = some (.int .i64 b) ∧ w.cell? ⟨p, 2, none⟩ = some (.int .u64 (total l : Nat)) ∧
    ∃ v R, G = p :: R ∧ p ∉ R ∧ w.cell? ⟨p, 1, none⟩ = some v ∧ Row 105 2 w v l.length (flat l) R := by
  obtain ⟨v, R, rfl, h1, h2, h3⟩ := h.ex
  exact ⟨by simp [World.cell?, h2], by simp [World.cell?, h2], v, R, rfl, h1, by simp [World.cell?, h2], h3⟩
theorem Bits_any {w : World} {p : Nat} {G : List Nat} {b : Nat} {l : IL} (h : HistAt w p G b l) :
    Calls Try.prog 57 #[.pointer (some ⟨p, 0, none⟩)] w fun e w' => e = .returned (.int .i64 b) ∧ w = w' := by
  obtain ⟨c0, c2, _⟩ := h.cells
  clear h
  go_enter Try.func57, Try.ntmps57
  go_wp2
  go_ret
  exact ⟨rfl, rfl⟩
theorem Count_any {w : World} {p : Nat} {G : List Nat} {b : Nat} {l : IL} (h : HistAt w p G b l) :
    Calls Try.prog 28 #[.pointer (some ⟨p, 0, none⟩)] w fun e w' => e = .returned (.int .u64 (total l : Nat)) ∧ w = w' := by
  obtain ⟨c0, c2, _⟩ := h.cells
  clear h
  go_enter Try.func28, Try.ntmps28
  go_wp2
  go_ret
  exact ⟨rfl, rfl⟩
theorem Items_any {w : World} {p : Nat} {G : List Nat} {b : Nat} {l : IL} (h : HistAt w p G b l) (hl : l.length ≤ 4294967296) :
    Calls Try.prog 75 #[.pointer (some ⟨p, 0, none⟩)] w (HItmCln.Cloned w l.length (flat l)) := by
  obtain ⟨c0, c2, v, R, _, _, c1, hr⟩ := h.cells
  have K := Lib.hid (HItmCln.any w v l.length (flat l) R hr (by omega) (flat_one l))
  clear h hr hl
  go_enter Try.func75, Try.ntmps75
  go_wp2_with fail
  refine K.out.mono ?_
  rintro e w' ⟨v', rfl, h⟩
  have H := Lib.hid h
  clear h
  go_wp2
  go_ret
  exact ⟨_, rfl, H.out⟩

set_option maxHeartbeats 1000000 in
set_option maxRecDepth 20000 in
theorem Add_any {w : World} {p : Nat} {G : List Nat} {b : Nat} {l : IL} (h : HistAt w p G b l) (ho : HOk b l) (n : Int) (hn : I64 n) :
    Calls Try.prog 26 #[.pointer (some ⟨p, 0, none⟩), .int .i64 n] w (HRes w p G b (addL b l n).1 (.int .i64 (addL b l n).2)) := by
  obtain ⟨c0, c2, _⟩ := h.cells
  have H := Lib.hid h
  have HB := ho.bits
  have HO := Lib.hid ho
  by_cases hf : 1099511627776 ≤ total l
  · have E := Lib.hid (show addL b l n = (l, 7) from if_pos hf)
    have t1 : (1099511627776 : Int) ≤ ((total l : Nat) : Int) := by omega
    clear h ho hf
    go_enter Try.func26, Try.ntmps26
    go_wp2
    go_ret
    exact ⟨by rw [E.out]; rfl, G, by rw [E.out]; exact H.out, Turn.refl _ _⟩
  · have E := Lib.hid (show addL b l n = (moreL l (ofZ b n) 1, 0) from if_neg hf)
    have t1 : ¬ (1099511627776 : Int) ≤ ((total l : Nat) : Int) := by omega
    have HT := Lib.hid hf
    clear h ho hf
    go_enter Try.func26, Try.ntmps26
    go_wp2_with fail
    have KO := Of_yes (b : Int) n w (by omega) (by omega) hn.1 hn.2
    rw [Int.toNat_natCast, ofZ_def] at KO
    refine KO.mono ?_
    rintro e w1 ⟨rfl, b1⟩
    have H1 := Lib.hid (H.out.mono b1)
    have B1 := Lib.hid b1
    obtain ⟨a, ha⟩ : ∃ a, a = ofZ b n := ⟨_, rfl⟩
    rw [← ha]
    have HA := Lib.hid ha
    clear b1 KO ha c0 c2
    go_wp2_with fail
    refine (more_any w1 p G b l a 1 H1.out HO.out.rise (by have := HO.out.len; omega) (by have := HO.out.total; omega)).mono ?_
    rintro e w2 ⟨rfl, G', h2, t2⟩
    have H2 := Lib.hid h2
    have T2 := Lib.hid t2
    clear h2 t2
    go_wp2
    go_ret
    exact ⟨by rw [E.out]; rfl, G', by rw [E.out, ← HA.out]; exact H2.out, (Turn.of B1.out).trans T2.out⟩

end Go.Proofs.Ytgafnilcmhjpcaa.HHist
