/- A histogram of numbers: the laws' own `of`, walked. -/
import Derived.Test.YtmhljblfbnjopaaHistEx
namespace Go.Proofs.Ytmhljblfbnjopaa.HHist
set_option linter.unusedVariables false
open Go.RowKit Go.Proofs.Ytmhljblfbnjopaa.HMem Go.Proofs.Ytmhljblfbnjopaa.HBucket
open Go.Proofs.Ytmhljblfbnjopaa.Print (I64)

/-- A row of whole numbers that is only read. -/
def NRow (k : IntKind) (w : World) (v : Value) (ns : List Int) : Prop :=
  (v = .slice none 0 0 ∧ ns = []) ∨ ∃ a c, v = .slice (some a) ns.length c ∧ ns.length ≤ c ∧ c ≤ maxLen ∧ ∀ i x, ns[i]? = some x → w.cell? (a.add i) = some (.int k x)
theorem NRow.mono {k : IntKind} {w w' : World} {v : Value} {ns : List Int} (h : NRow k w v ns) (b : Below w.heap.size w w') : NRow k w' v ns := by
  rcases h with h | ⟨a, c, h1, h2, h3, h4⟩
  · exact .inl h
  · refine .inr ⟨a, c, h1, h2, h3, fun i x hx => ?_⟩
    have h := h4 i x hx
    have hl : (a.add i).block < w.heap.size := by
      rcases Nat.lt_or_ge (a.add i).block w.heap.size with hl | hg
      · exact hl
      · exfalso
        have : w.heap[(a.add i).block]? = none := Array.getElem?_eq_none hg
        simp [World.cell?, this] at h
    rw [← h]
    exact World.cell?_of_block (b.block _ hl)
theorem NRow.form {k : IntKind} {w : World} {v : Value} {ns : List Int} (h : NRow k w v ns) : ∃ a c, v = .slice a ns.length c ∧ ns.length ≤ c ∧ c ≤ maxLen ∧ ∀ i x, ns[i]? = some x → ∃ a', a = some a' ∧ w.cell? (a'.add i) = some (.int k x) := by
  rcases h with ⟨rfl, rfl⟩ | ⟨a, c, h1, h2, h3, h4⟩
  · exact ⟨none, 0, rfl, Nat.le_refl _, Nat.zero_le _, fun i x h => by simp at h⟩
  · exact ⟨some a, c, h1, h2, h3, fun i x hx => ⟨a, rfl, h4 i x hx⟩⟩
theorem NRow.none {k : IntKind} {w : World} {a : Option Addr} {n c : Nat} {ns : List Int} (h : NRow k w (.slice a n c) ns) (ha : a = Option.none) : n = 0 ∧ c = 0 := by
  rcases h with ⟨e, _⟩ | ⟨a', c', e, _⟩
  · cases e; exact ⟨rfl, rfl⟩
  · cases e; cases ha
theorem NRow.cells {k : IntKind} {w : World} {a : Option Addr} {n c : Nat} {ns : List Int} (h : NRow k w (.slice a n c) ns) : ns.length = n ∧ ∀ ad, a = some ad → ∀ i x, ns[i]? = some x → w.cell? (ad.add i) = some (.int k x) := by
  rcases h with ⟨e, rfl⟩ | ⟨a', c', e, _, _, h⟩
  · cases e; exact ⟨rfl, fun ad ha => by cases ha⟩
  · cases e; exact ⟨rfl, fun ad ha => by cases ha; exact h⟩
theorem NRow.take {k : IntKind} {w : World} {a : Option Addr} {n c : Nat} {ns : List Int} (h : NRow k w (.slice a n c) ns) (m : Nat) (hm : m ≤ n) : NRow k w (.slice a m c) (ns.take m) := by
  rcases h with ⟨e, rfl⟩ | ⟨a', c', e, h2, h3, h4⟩
  · cases e
    obtain rfl : m = 0 := by omega
    exact .inl ⟨rfl, by simp⟩
  · cases e
    refine .inr ⟨a', c, ?_, ?_, h3, fun i x hx => ?_⟩
    · rw [List.length_take, Nat.min_eq_left hm]
    · rw [List.length_take]; omega
    · rw [List.getElem?_take] at hx
      split at hx
      · exact h4 i x hx
      · cases hx
theorem i64_wf {x : Int} (h : (Lit.int .i64 x).wf = true) : I64 x := by simpa [I64, Lit.wf, IntKind.min, IntKind.max, IntKind.signed, IntKind.bits] using h
theorem i8_wf {x : Int} (h : (Lit.int .i8 x).wf = true) : -128 ≤ x ∧ x ≤ 127 := by simpa [Lit.wf, IntKind.min, IntKind.max, IntKind.signed, IntKind.bits] using h
theorem u8_wf {x : Int} (h : (Lit.int .u8 x).wf = true) : ∃ n : Nat, x = n ∧ n < 256 := by
  have : 0 ≤ x ∧ x ≤ 255 := by simpa [Lit.wf, IntKind.min, IntKind.max, IntKind.signed, IntKind.bits] using h
  exact ⟨x.toNat, by omega, by omega⟩
theorem u16_wf {x : Int} (h : (Lit.int .u16 x).wf = true) : ∃ n : Nat, x = n ∧ n < 65536 := by
  have : 0 ≤ x ∧ x ≤ 65535 := by simpa [Lit.wf, IntKind.min, IntKind.max, IntKind.signed, IntKind.bits] using h
  exact ⟨x.toNat, by omega, by omega⟩
theorem u64_wf {x : Int} (h : (Lit.int .u64 x).wf = true) : ∃ n : Nat, x = n ∧ n < 18446744073709551616 := by
  have : 0 ≤ x ∧ x ≤ 18446744073709551615 := by simpa [Lit.wf, IntKind.min, IntKind.max, IntKind.signed, IntKind.bits] using h
  exact ⟨x.toNat, by omega, by omega⟩
def ofL (b : Nat) (ns : List Int) : IL := ns.foldl (fun l n => moreL l (ofZ b n) 1) []
theorem ofL_snoc (b : Nat) (ns : List Int) (n : Int) : ofL b (ns ++ [n]) = moreL (ofL b ns) (ofZ b n) 1 := by unfold ofL; rw [List.foldl_append]; rfl
theorem total_fold (b : Nat) : ∀ (ns : List Int) (l : IL), total (ns.foldl (fun l n => moreL l (ofZ b n) 1) l) = total l + ns.length
  | [], l => rfl
  | n :: r, l => by rw [List.foldl_cons, total_fold b r, total_moreL, List.length_cons]; omega
theorem total_ofL (b : Nat) (ns : List Int) : total (ofL b ns) = ns.length := by unfold ofL; rw [total_fold]; simp [total]
theorem addL_ofL (b : Nat) (ns : List Int) (n : Int) (h : ns.length < 1099511627776) : addL b (ofL b ns) n = (ofL b (ns ++ [n]), 0) := by
  unfold addL
  rw [total_ofL, if_neg (by omega), ofL_snoc]

set_option maxRecDepth 20000 in
set_option maxHeartbeats 4000000 in
theorem of_any (b : Nat) (hb : b ≤ 4) (v : Value) (ns : List Int) (w : World) (hv : NRow .i64 w v ns) (hl : ns.length ≤ 1000) (hi : ∀ x ∈ ns, I64 x) :
    Calls Try.prog 18 #[.int .i64 b, v] w fun e w' => e = .returned (.pointer (some ⟨w.heap.size, 0, none⟩)) ∧ SH w.heap.size w' w.heap.size b (ofL b ns) ∧ Below w.heap.size w w' := by
  obtain ⟨a, c, rfl, h2, h3, h4⟩ := hv.form
  clear hv
  obtain ⟨n, hn⟩ : ∃ n, n = ns.length := ⟨_, rfl⟩
  have HN := Lib.hid hn
  rw [← hn] at h2 hl ⊢
  have C := Lib.hid h4
  clear h4 hn
  go_enter Try.func18, Try.ntmps18
  go_wp2_with fail
  refine (s_new b _ hb).mono ?_
  rintro e w1 ⟨rfl, s1, b1⟩
  obtain ⟨p, hp⟩ : ∃ p, p = w.heap.size := ⟨_, rfl⟩
  rw [← hp] at s1 b1 ⊢
  have HP := Lib.hid hp
  have S1 := Lib.hid s1
  have B1 := Lib.hid b1
  clear s1 b1 hp
  go_wp2_with fail
  go_loopw [7] (fun x wr => ∃ j : Nat, j ≤ n ∧ x = .int .i64 j ∧ SH p wr p b (ofL b (ns.take j)) ∧ Below p w wr) (fun x _ => n - (intOf x).toNat)
  case atStart => exact ⟨0, Nat.zero_le _, rfl, S1.out, B1.out⟩
  case round =>
    obtain ⟨j, hj, rfl, hh, bb⟩ := hrel
    have HH := Lib.hid hh
    have BB := Lib.hid bb
    clear hh bb
    rcases Nat.lt_or_ge j n with hlt | hge
    · have hj1 : (j : Int) < n := by omega
      obtain ⟨x, hx⟩ : ∃ x, ns[j]? = some x := ⟨_, List.getElem?_eq_getElem (by rw [← HN.out]; exact hlt)⟩
      obtain ⟨a', rfl, hc⟩ := C.out j x hx
      have c0 : wr.cell? (a'.add j) = some (.int .i64 x) := by
        have hl : (a'.add j).block < w.heap.size := by
          rcases Nat.lt_or_ge (a'.add j).block w.heap.size with hl | hg
          · exact hl
          · exfalso
            have : w.heap[(a'.add j).block]? = none := Array.getElem?_eq_none hg
            simp [World.cell?, this] at hc
        rw [← hc]
        exact World.cell?_of_block (BB.out.block _ (by rw [HP.out]; exact hl))
      have hX : I64 x := hi x (List.mem_of_getElem? hx)
      have HA := Lib.hid (show addL b (ofL b (ns.take j)) x = (ofL b (ns.take (j + 1)), 0) by
        rw [addL_ofL _ _ _ (by rw [List.length_take]; omega), List.take_add_one, hx]; rfl)
      have hlt' := Lib.hid hlt
      clear hx hlt hc
      go_wp2_with fail
      have K := s_add HH.out (by have := BB.out.size; have := HP.out; omega) x hX
      rw [HA.out] at K
      refine K.mono ?_
      rintro e w6 ⟨rfl, s6, b6⟩
      have S6 := Lib.hid s6
      have B6 := Lib.hid (bt' BB.out b6)
      clear s6 b6 K c0
      go_wp2
      go_roundw
      case rel => exact ⟨j + 1, hlt'.out, by go_num, S6.out, B6.out⟩
      case measure => have := hlt'.out; simp [intOf]; omega
    · have hj1 : ¬ (j : Int) < n := by omega
      have EJ := Lib.hid (show ns.take j = ns from List.take_of_length_le (by have := HN.out; omega))
      clear hge
      go_wp2
      go_ret
      rw [← HP.out]
      exact ⟨rfl, by have := HH.out; rw [EJ.out] at this; exact this, BB.out⟩
end Go.Proofs.Ytmhljblfbnjopaa.HHist
