/- The reference's histogram of one's own; same, number, walked. Conditions: what histograms hold. -/
import Derived.Test.YtmhljblfbnjopaaHistRef10
import Derived.Test.YtmhljblfbnjopaaHistEx
namespace Go.Proofs.Ytmhljblfbnjopaa.HHist
set_option linter.unusedVariables false
open Go.RowKit Go.Proofs.Ytmhljblfbnjopaa.HMem Go.Proofs.Ytmhljblfbnjopaa.HBucket Go.Proofs.Ytmhljblfbnjopaa.HApp
open Go.Proofs.Ytmhljblfbnjopaa.Print (I64)

/-- A reference's histogram of one's own: all its blocks are from some place on. -/
def RSH (B : Nat) (w : World) (p b : Nat) (l : IL) : Prop := ∃ G, RHistAt w p G b l ∧ HOk b l ∧ ∀ g ∈ G, B ≤ g
theorem RSH.mono {B : Nat} {w w' : World} {p b : Nat} {l : IL} (h : RSH B w p b l) (k : Below w.heap.size w w') : RSH B w' p b l := by
  obtain ⟨G, h1, h2, h3⟩ := h
  exact ⟨G, h1.mono k, h2, h3⟩
theorem RSH.ok {B : Nat} {w : World} {p b : Nat} {l : IL} (h : RSH B w p b l) : HOk b l := by
  obtain ⟨G, h1, h2, h3⟩ := h
  exact h2
theorem r_new (b : Nat) (w : World) (hb : b ≤ 4) :
    Calls Try.prog 11 #[.int .i64 b] w fun e w' => e = .returned (.pointer (some ⟨w.heap.size, 0, none⟩)) ∧ RSH w.heap.size w' w.heap.size b [] ∧ Below w.heap.size w w' :=
  (rNew_yes b w hb).mono fun e w' ⟨h1, h2, h3⟩ => ⟨h1, ⟨_, h2, HOk.nil hb, fun g hg => by simp at hg; omega⟩, h3⟩
theorem r_add {B : Nat} {w : World} {p b : Nat} {l : IL} (h : RSH B w p b l) (hB : B ≤ w.heap.size) (n : Int) (hn : I64 n) :
    Calls Try.prog 12 #[.pointer (some ⟨p, 0, none⟩), .int .i64 n] w fun e w' => e = .returned (.int .i64 (addL b l n).2) ∧ RSH B w' p b (addL b l n).1 ∧ Below B w w' := by
  obtain ⟨G, h1, h2, h3⟩ := h
  refine (rAdd_any h1 h2 n hn).mono ?_
  rintro e w' ⟨rfl, G', k1, k2⟩
  refine ⟨rfl, ⟨G', k1, h2.add hn, fun g hg => ?_⟩, k2.chg.below h3 hB⟩
  rcases k2.foot g hg with h' | h'
  · exact h3 g h'
  · omega
theorem r_put {B : Nat} {w : World} {p b : Nat} {l : IL} (h : RSH B w p b l) :
    Calls Try.prog 14 #[.pointer (some ⟨p, 0, none⟩)] w fun e w' => e = .returned (.string (strOfNums (encL b l))) ∧ Below w.heap.size w w' := by
  obtain ⟨G, h1, h2, h3⟩ := h
  exact rPut_any h1 h2

set_option maxHeartbeats 2000000 in
set_option maxRecDepth 20000 in
theorem same_any {w : World} {p q : Nat} {G F : List Nat} {b : Nat} {l : IL} (h : HistAt w p G b l) (k : RHistAt w q F b l) (ho : HOk b l) :
    Calls Try.prog 17 #[.pointer (some ⟨p, 0, none⟩), .pointer (some ⟨q, 0, none⟩)] w fun e w' => e = .returned (.bool true) ∧ Below w.heap.size w w' := by
  have hlen := ho.len
  have htot := ho.total
  have KI := Lib.hid (Items_any h (by omega))
  have H := Lib.hid h
  have K := Lib.hid k
  obtain ⟨n, hn⟩ : ∃ n, n = l.length := ⟨_, rfl⟩
  rw [← hn] at hlen KI
  have HN := Lib.hid hn
  clear h k hn
  go_enter Try.func17, Try.ntmps17
  go_wp2_with fail
  refine KI.out.mono ?_
  rintro e w1 ⟨v, rfl, G1, r1, g1, b1⟩
  obtain ⟨av, cp, rfl, _⟩ := r1.form
  have R1 := Lib.hid r1
  have B1 := Lib.hid b1
  have H1 := Lib.hid (H.out.mono b1)
  have K1 := Lib.hid (K.out.mono b1)
  obtain ⟨_, v2, R2, hx1, hx2, c1, hr2⟩ := K1.out.cells
  have c0 := K1.out.cells.1
  obtain ⟨av2, cp2, rfl, _⟩ := hr2.form
  rw [← HN.out] at c1 hr2
  have RR2 := Lib.hid hr2
  clear r1 b1 hx1 hx2 hr2 g1
  obtain ⟨T, hT⟩ : ∃ T, T = total l := ⟨_, rfl⟩
  have KC := Lib.hid (show ∀ u, Below w1.heap.size w1 u → Calls Try.prog 25 #[.pointer (some ⟨p, 0, none⟩)] u fun e w' => e = .returned (.int .u64 T) ∧ Below u.heap.size u w' from fun u hu => by
    rw [hT]; exact (Count_any (H1.out.mono hu)).mono fun e w' ⟨h, k⟩ => ⟨h, by subst k; exact Below.refl _ _⟩)
  have KD := Lib.hid (show ∀ u, Below w1.heap.size w1 u → Calls Try.prog 34 #[.pointer (some ⟨q, 0, none⟩)] u fun e w' => e = .returned (.int .u64 T) ∧ Below u.heap.size u w' from fun u hu => by
    rw [hT]; exact (rCount_any (K1.out.mono hu) (by rw [← HN.out]; omega) (by omega)).mono fun e w' ⟨h, k⟩ => ⟨h, by subst k; exact Below.refl _ _⟩)
  have KB := Lib.hid (show ∀ u, Below w1.heap.size w1 u → Calls Try.prog 33 #[.pointer (some ⟨p, 0, none⟩)] u fun e w' => e = .returned (.int .i64 b) ∧ Below u.heap.size u w' from fun u hu =>
    (Bits_any (H1.out.mono hu)).mono fun e w' ⟨h, k⟩ => ⟨h, by subst k; exact Below.refl _ _⟩)
  have n1 : ((n : Int) != (n : Int)) = false := by simp
  have n2 : ((T : Int) != (T : Int)) = false := by simp
  have n3 : ((b : Int) != (b : Int)) = false := by simp
  clear hT htot
  go_wp2_with fail
  refine wp_region_quiet (C := fun w' => Below w1.heap.size w1 w') (by kernel_rfl) (by kernel_rfl) ((Below.refl _ _).drew) ?_
  repeat (
    with_reducible refine wpQuiet_step (fun K hK => ?_)
    go_simp
    first
      | (with_reducible refine hK _ ?_; clear hK K)
      | (apply Exists.intro
         refine ⟨fun v hv => ?_, hK _ ?_⟩
         (first
           | with_reducible rfl
           | (with_reducible show Calls _ _ _ _ _
              first
                | with_reducible refine Calls.mono (KC.out _ hv) ?_
                | with_reducible refine Calls.mono (KD.out _ hv) ?_
                | with_reducible refine Calls.mono (KB.out _ hv) ?_
              rintro e w' ⟨rfl, hb⟩
              exact ⟨rfl, hv.trans (hb.mono hv.size)⟩)
           | (have d0 := (hv.cell (World.block_lt_of_cell? _ _ c0)).trans c0
              have d1 := (hv.cell (World.block_lt_of_cell? _ _ c1)).trans c1
              go_simp
              with_reducible rfl))
         clear hK K))
  refine wpQuiet_nil ?_
  intro wf hk
  replace c1 := (hk.cell (World.block_lt_of_cell? _ _ c1)).trans c1
  have C1 := Lib.hid c1
  have BF := Lib.hid hk
  clear hk KC KD KB n1 n2 n3 c0
  go_wp2_with fail
  rename World => W0
  go_loopw [6] (fun x wr => ∃ j : Nat, x = .int .i64 j ∧ j ≤ n ∧ Below W0.heap.size W0 wr) (fun x _ => n - (intOf x).toNat)
  case atStart => exact ⟨0, rfl, Nat.zero_le _, Below.refl _ _⟩
  case round =>
    obtain ⟨j, rfl, hj, bb⟩ := hrel
    have BB := Lib.hid bb
    have B2 := Lib.hid (BF.out.trans (bb.mono BF.out.size))
    have c1 : wr.cell? ⟨q, 1, none⟩ = some (.slice av2 n cp2) := (bb.cell (World.block_lt_of_cell? _ _ C1.out)).trans C1.out
    clear bb
    rcases Nat.lt_or_ge j n with hlt | hge
    · have hj1 : (j : Int) < n := by omega
      obtain ⟨x, hx⟩ : ∃ x, l[j]? = some x := ⟨_, List.getElem?_eq_getElem (by rw [← HN.out]; exact hlt)⟩
      obtain ⟨g, off, cap', e1, _, _, _, hc⟩ := (R1.out.same (Same.own B2.out R1.out.own)).there (by omega)
      cases e1
      obtain ⟨g', off', cap'', e1, _, _, _, hc'⟩ := (RR2.out.same (Same.own B2.out RR2.out.own)).there (by omega)
      cases e1
      have y0 := (hc _ _ (flat_get l j x hx).1).1
      have y1 := (hc _ _ (flat_get l j x hx).2).1
      have z0 := (hc' _ _ (flat_get l j x hx).1).1
      have z1 := (hc' _ _ (flat_get l j x hx).2).1
      rw [← Nat.add_assoc] at y1 z1
      have n1 : (x.1 != x.1) = false := by simp
      have n2 : ((x.2 : Int) != (x.2 : Int)) = false := by simp
      have hlt' := Lib.hid hlt
      clear hc hc' hx hlt
      go_wp2_with fail
      refine wp_region_quiet (C := fun w' => Below wr.heap.size wr w') (by kernel_rfl) (by kernel_rfl) ((Below.refl _ _).drew) ?_
      repeat (
        with_reducible refine wpQuiet_step (fun K hK => ?_)
        go_simp
        first
          | (with_reducible refine hK _ ?_; clear hK K)
          | (apply Exists.intro
             refine ⟨fun v hv => ?_, hK _ ?_⟩
             (first
               | with_reducible rfl
               | (have d0 := (hv.cell (World.block_lt_of_cell? _ _ c1)).trans c1
                  have d1 := (hv.cell (World.block_lt_of_cell? _ _ y0)).trans y0
                  have d2 := (hv.cell (World.block_lt_of_cell? _ _ y1)).trans y1
                  have d3 := (hv.cell (World.block_lt_of_cell? _ _ z0)).trans z0
                  have d4 := (hv.cell (World.block_lt_of_cell? _ _ z1)).trans z1
                  go_simp
                  with_reducible rfl))
             clear hK K))
      refine wpQuiet_nil ?_
      intro wf hk
      have BG := Lib.hid (BB.out.trans (hk.mono BB.out.size))
      clear hk c1 y0 y1 z0 z1 n1 n2
      go_wp2
      go_roundw
      case rel => exact ⟨j + 1, by go_num, hlt'.out, BG.out⟩
      case measure => have := hlt'.out; simp [intOf]; omega
    · have hj1 : ¬ (j : Int) < n := by omega
      clear hge
      go_wp2
      go_ret
      exact ⟨rfl, B1.out.trans (B2.out.mono B1.out.size)⟩
/-- Deed.number. -/
def numZ (k : Nat) (n : Int) : Int := if k % 16 < 12 then n.tmod 40 else n
theorem number_any (k : Nat) (hk : k < 256) (d : Int) (ad : Option Addr) (m c : Nat) (bits n : Int) (hn : I64 n) (w : World) :
    Calls Try.prog 28 #[.agg #[.int .u8 k, .int .i64 d, .slice ad m c, .int .i64 bits], .int .i64 n] w fun e w' => e = .returned (.int .i64 (numZ k n)) ∧ Below w.heap.size w w' := by
  obtain ⟨z, hz⟩ : ∃ z, z = k % 16 := ⟨_, rfl⟩
  have e1 : (k : Int) % 16 = (z : Int) := by omega
  have e2 : n.tmod 40 = n.tmod 40 := rfl
  have HZ := Lib.hid hz
  clear hz
  by_cases h : z < 12
  · have EN := Lib.hid (show numZ k n = n.tmod 40 by unfold numZ; rw [← HZ.out, if_pos h])
    have q1 : decide ((z : Int) < 12) = true := by simp; omega
    go_enter Try.func28, Try.ntmps28
    go_wp2_with fail
    go_wp2
    go_ret
    rw [EN.out]
    exact ⟨rfl, (Below.refl _ _).alloc (Nat.le_refl _) _⟩
  · have EN := Lib.hid (show numZ k n = n by unfold numZ; rw [← HZ.out, if_neg h])
    have q1 : decide ((z : Int) < 12) = false := by simp; omega
    go_enter Try.func28, Try.ntmps28
    go_wp2
    go_ret
    rw [EN.out]
    exact ⟨rfl, (Below.refl _ _).alloc (Nat.le_refl _) _⟩
end Go.Proofs.Ytmhljblfbnjopaa.HHist
