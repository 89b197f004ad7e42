/- The laws' own word, few, same, walked. Conditions: sizes. -/
import Derived.Test.YtlmnniajindlgaaLab14
namespace Go.Proofs.Ytlmnniajindlgaa.HLab
set_option linter.unusedVariables false
open Go.RowKit Go.Proofs.Ytlmnniajindlgaa.HMem Go.Proofs.Ytlmnniajindlgaa.HBld Go.Proofs.Ytlmnniajindlgaa.HApp

/-- A row of bytes that is only read. -/
def URow (w : World) (v : Value) (xs : List UInt8) : Prop :=
  ∃ a c, v = .slice a xs.length c ∧ xs.length ≤ c ∧ c ≤ maxLen ∧ ∀ i x, xs[i]? = some x → ∃ a', a = some a' ∧ w.cell? (a'.add i) = some (.int .u8 x.toNat)
theorem URow.mono {w w' : World} {v : Value} {xs : List UInt8} (h : URow w v xs) (b : Below w.heap.size w w') : URow w' v xs := by
  obtain ⟨a, c, h1, h2, h3, h4⟩ := h
  refine ⟨a, c, h1, h2, h3, fun i x hx => ?_⟩
  obtain ⟨a', e, k⟩ := h4 i x hx
  exact ⟨a', e, (b.cell (World.block_lt_of_cell? _ _ k)).trans k⟩
/-- A row of rows of bytes that is only read. -/
def WRow (w : World) (v : Value) (ls : List (List UInt8)) : Prop :=
  ∃ a c, v = .slice a ls.length c ∧ ls.length ≤ c ∧ c ≤ maxLen ∧ ∀ i l, ls[i]? = some l → ∃ a' u, a = some a' ∧ w.cell? (a'.add i) = some u ∧ URow w u l
theorem WRow.mono {w w' : World} {v : Value} {ls : List (List UInt8)} (h : WRow w v ls) (b : Below w.heap.size w w') : WRow w' v ls := by
  obtain ⟨a, c, h1, h2, h3, h4⟩ := h
  refine ⟨a, c, h1, h2, h3, fun i x hx => ?_⟩
  obtain ⟨a', u, e, k, r⟩ := h4 i x hx
  exact ⟨a', u, e, (b.cell (World.block_lt_of_cell? _ _ k)).trans k, r.mono b⟩
/-- A letter of a word. -/
def ltr (x : UInt8) : UInt8 := [(97 : UInt8), 98, 99, 44, 61, 32, 92, 35, 255, 49].getD (x.toNat % 10) 0
/-- A name by bytes. -/
def wordL (l : List UInt8) : List UInt8 := 119 :: (l.take 12).map ltr
def wordB (l : List UInt8) : ByteArray := ⟨⟨wordL l⟩⟩
theorem wordL_length (l : List UInt8) : (wordL l).length ≤ 13 := by
  unfold wordL; rw [List.length_cons, List.length_map, List.length_take]; omega
theorem wlit_at (r : Nat) (h : r < 10) : ((⟨#[97, 98, 99, 44, 61, 32, 92, 35, 255, 49]⟩ : ByteArray)[r]'h) = [(97 : UInt8), 98, 99, 44, 61, 32, 92, 35, 255, 49].getD r 0 :=
  match r, h with
  | 0, _ => rfl
  | 1, _ => rfl
  | 2, _ => rfl
  | 3, _ => rfl
  | 4, _ => rfl
  | 5, _ => rfl
  | 6, _ => rfl
  | 7, _ => rfl
  | 8, _ => rfl
  | 9, _ => rfl
theorem bsingle {w : World} (B : Nat) (hB : B ≤ w.heap.size) (c : UInt8) : (w.alloc (.cells #[.int .u8 c.toNat] 5)).ownsRow B 5 1 (.slice (some ⟨w.heap.size, 0, none⟩) 1 1) 1 (Lib.byteCells [c]) :=
  ⟨rfl, .inr ⟨w.heap.size, 1, #[.int .u8 c.toNat], rfl, hB, heap_alloc_new w _, Nat.le_refl _, by unfold maxLen; omega, rfl, rfl⟩⟩
set_option maxHeartbeats 4000000 in
set_option maxRecDepth 20000 in
theorem word_any (w : World) (v : Value) (l : List UInt8) (hv : URow w v l) : Calls Try.prog 11 #[v] w fun e w' => e = .returned (.string (wordB l)) ∧ Below w.heap.size w w' := by
  obtain ⟨i0, hi0, hz0, hz1, hz2⟩ := info_parts infoB8
  obtain ⟨T, hT⟩ : ∃ T : ByteArray, T = wordB l := ⟨_, rfl⟩
  rw [← hT]
  have HTT := Lib.hid hT
  obtain ⟨a, cp, rfl, hcp, hmx, hat⟩ := id hv
  obtain ⟨m, hm⟩ : ∃ m, m = l.length := ⟨_, rfl⟩
  rw [← hm] at hv hcp ⊢
  have HV := Lib.hid hv
  have HM := Lib.hid hm
  have HMX := Lib.hid (Nat.le_trans hcp hmx)
  clear hT hv hat hcp hmx hm
  go_enter Try.func11, Try.ntmps11
  go_wp2_with fail
  obtain ⟨B, hB⟩ : ∃ B, B = w.heap.size := ⟨_, rfl⟩
  obtain ⟨W, hW⟩ : ∃ W, W = w.alloc (.cells #[.int .u8 119] 5) := ⟨_, rfl⟩
  have O0 := Lib.hid (show W.ownsRow B 5 1 (.slice (some ⟨B, 0, none⟩) 1 1) 1 (Lib.byteCells [119]) by rw [hW, hB]; exact bsingle _ (Nat.le_refl _) 119)
  have BW := Lib.hid (show Below B w W by rw [hW, hB]; exact (Below.refl _ _).alloc (Nat.le_refl _) _)
  have HB := Lib.hid hB
  rw [← hW, ← hB]
  clear hW hB
  go_loopw [3, 4] (fun v x wr => ∃ k : Nat, k ≤ m ∧ k ≤ 12 ∧ x = .int .i64 k ∧ wr.ownsRow B 5 1 v (k + 1) (Lib.byteCells (wordL (l.take k))) ∧ Below B w wr) (fun _ x _ => m - (intOf x).toNat)
  case atStart => exact ⟨0, Nat.zero_le _, by omega, rfl, by simpa [wordL] using O0.out, BW.out⟩
  case round =>
    obtain ⟨k, hk, hk12, rfl, own, bb⟩ := hrel
    have OWN := Lib.hid own
    have BB := Lib.hid bb
    have hbw : B ≤ wr.heap.size := by rw [HB.out]; exact bb.size
    clear own bb
    by_cases hlt : k < m ∧ k < 12
    · obtain ⟨hl1, hl2⟩ := hlt
      have q1 : (k : Int) < m := by omega
      have q2 : (k : Int) < 12 := by omega
      have HLT := Lib.hid (And.intro hl1 hl2)
      obtain ⟨x, hx⟩ : ∃ x, l[k]? = some x := ⟨_, List.getElem?_eq_getElem (by rw [← HM.out]; exact hl1)⟩
      have HVr := HV.out.mono (w' := wr) (by rw [← HB.out]; exact BB.out)
      obtain ⟨a1, c1, e1, _, _, hat⟩ := HVr
      cases e1
      obtain ⟨ad, rfl, c0⟩ := hat k x hx
      have HX := Lib.hid (show wordL (l.take (k + 1)) = wordL (l.take k) ++ [ltr x] by
        unfold wordL
        rw [List.take_of_length_le (l := l.take (k + 1)) (by rw [List.length_take]; omega), List.take_of_length_le (l := l.take k) (by rw [List.length_take]; omega), List.take_add_one, hx, List.map_append]
        rfl)
      have hm10 : x.toNat % 10 < 10 := Nat.mod_lt _ (by omega)
      obtain ⟨c, hc⟩ : ∃ c, c = ltr x := ⟨_, rfl⟩
      have ec : ((((⟨#[97, 98, 99, 44, 61, 32, 92, 35, 255, 49]⟩ : ByteArray)[x.toNat % 10]'hm10).toNat : Nat) : Int) = (c.toNat : Int) := by rw [wlit_at _ hm10, hc]; rfl
      rw [← hc] at HX
      have hln : (wordL (l.take k)).length = k + 1 := by
        unfold wordL
        rw [List.length_cons, List.length_map, List.length_take, List.length_take]
        omega
      have A2 := byte_new wr c.toNat
      have A3 := byte_one c.toNat
      have A4 : k + 1 + 1 ≤ maxLen := by unfold maxLen; omega
      have A5 : (k + 1 + 1) * 1 ≤ 140737488355328 := by omega
      have A6 : B ≤ (wr.alloc (.cells #[.int .u8 c.toNat] 5)).heap.size := by simp; omega
      clear hat hx hl1 hl2 hc hln
      go_wp2_with (at_builtin; refine append_any _ rfl _ _ 23 rfl B 5 i0 (.int .u8 0) 1 1 Try.underlying23 hi0 hz0 hz1 hz2 rfl (by decide) _ (k + 1) (Lib.byteCells (wordL (l.take k))) rfl (OWN.out.alloc _) (some ⟨wr.heap.size, 0, none⟩) 1 1 [.int .u8 c.toNat] rfl (fun e => nomatch e) rfl A2 A3 A4 A5 A6 ?_)
      intro v6 w6 o6 b6
      have O6 := Lib.hid (show w6.ownsRow B 5 1 v6 (k + 1 + 1) (Lib.byteCells (wordL (l.take (k + 1)))) by
        rw [HX.out]
        simpa [Lib.byteCells_append, Lib.byteCells] using o6)
      have B6 := Lib.hid (BB.out.trans (((Below.refl B wr).alloc hbw _).trans b6))
      clear A2 A3 A4 A5 A6 o6 b6
      go_wp2
      go_roundw
      case rel => exact ⟨k + 1, HLT.out.1, HLT.out.2, by go_num, O6.out, B6.out⟩
      case measure => have := HLT.out; simp [intOf]; omega
    · have E := Lib.hid (show wordL (l.take k) = wordL l by
        unfold wordL
        congr 2
        rw [List.take_take]
        rcases Nat.lt_or_ge k 12 with h | h
        · rw [Nat.min_eq_right (by omega), List.take_of_length_le (by rw [← HM.out]; omega), List.take_of_length_le (by rw [← HM.out]; omega)]
        · obtain rfl : k = 12 := by omega
          rfl)
      have hln : k + 1 = (wordL l).length := by
        rw [← E.out]
        unfold wordL
        rw [List.length_cons, List.length_map, List.length_take, List.length_take, ← HM.out]
        omega
      rw [E.out, hln] at OWN
      have hcv := cv_own OWN.out
      rw [show (⟨⟨wordL l⟩⟩ : ByteArray) = T from HTT.out.symm] at hcv
      clear hln
      by_cases him2 : k < m
      case' pos =>
        obtain rfl : k = 12 := by omega
        have q1 : ((12 : Nat) : Int) < m := by omega
      case' neg =>
        obtain rfl : k = m := by omega
      all_goals
        clear hlt him2
        go_wp2
        go_ret
        exact ⟨rfl, by rw [← HB.out]; exact BB.out⟩
end Go.Proofs.Ytlmnniajindlgaa.HLab
