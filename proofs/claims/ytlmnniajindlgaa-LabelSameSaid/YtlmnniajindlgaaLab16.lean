/- The laws' own few and same, walked. Conditions: sizes. -/
import Derived.Test.YtlmnniajindlgaaLab15
import Derived.BigQuiet
namespace Go.Proofs.Ytlmnniajindlgaa.HLab
set_option linter.unusedVariables false
open Go.RowKit Go.Proofs.Ytlmnniajindlgaa.HMem Go.Proofs.Ytlmnniajindlgaa.HBld Go.Proofs.Ytlmnniajindlgaa.HApp

@[go_sem] theorem eqLab (a b c d : ByteArray) (w : World) : (Op.equalIn 10000 42 (.agg #[.string a, .string b]) (.agg #[.string c, .string d])).run Try.prog w = .ok (a.toList == c.toList && b.toList == d.toList) w := by
  have hS : Try.prog.underlying 42 = some (.struct (Try.prog.fieldsOf 42)) := by kernel_rfl
  rw [show (10000 : Nat) = 9999 + 1 from rfl, run_equalIn_agg w 9999 42 _ _ hS (by kernel_rfl)]
  simp only [Program.fieldsOf, Try.underlying42]
  go_simp
  cases h1 : (a.toList == c.toList) <;> cases h2 : (b.toList == d.toList) <;> simp_all
set_option maxHeartbeats 4000000 in
set_option maxRecDepth 20000 in
theorem same_any (w : World) (v u : Value) (l k : LL) (hv : LRow w v l) (hu : LRow w u k) : Calls Try.prog 16 #[v, u] w fun e w' => e = .returned (.bool (decide (l = k))) ∧ Below w.heap.size w w' := by
  obtain ⟨r, hr⟩ : ∃ r, r = decide (l = k) := ⟨_, rfl⟩
  rw [← hr]
  have HR := Lib.hid hr
  obtain ⟨a1, c1, rfl, hcp1, hmx1, _⟩ := id hv
  obtain ⟨a2, c2, rfl, hcp2, hmx2, _⟩ := id hu
  obtain ⟨m, hm⟩ : ∃ m, m = l.length := ⟨_, rfl⟩
  obtain ⟨n, hn⟩ : ∃ n, n = k.length := ⟨_, rfl⟩
  rw [← hm] at hv ⊢
  rw [← hn] at hu ⊢
  have HV := Lib.hid hv
  have HU := Lib.hid hu
  have HM := Lib.hid hm
  have HN := Lib.hid hn
  have hmm : m ≤ 9223372036854775807 := by rw [hm]; exact Nat.le_trans hcp1 hmx1
  clear hr hv hu hcp1 hmx1 hcp2 hmx2 hm hn
  by_cases hmn : m = n
  rotate_left
  · have t1 : ((m : Int) != (n : Int)) = true := by rw [bne_iff_ne]; omega
    have E := Lib.hid (show r = false by
      rw [HR.out]
      refine decide_eq_false fun e => hmn ?_
      rw [HM.out, HN.out, e])
    clear hmn
    go_enter Try.func16, Try.ntmps16
    go_wp2
    go_ret
    exact ⟨by rw [E.out]; rfl, Below.refl _ _⟩
  subst hmn
  go_enter Try.func16, Try.ntmps16
  go_wp2_with fail
  go_loopw [5] (fun x wr => ∃ j : Nat, j ≤ m ∧ x = .int .i64 j ∧ l.take j = k.take j ∧ Below w.heap.size w wr) (fun x _ => m - (intOf x).toNat)
  case atStart => exact ⟨0, Nat.zero_le _, rfl, rfl, Below.refl _ _⟩
  case round =>
    obtain ⟨j, hj, rfl, hall, bb⟩ := hrel
    have HALL := Lib.hid hall
    have BB := Lib.hid bb
    have HVr := HV.out.mono bb
    have HUr := HU.out.mono bb
    clear hall bb
    rcases Nat.lt_or_ge j m with hlt | hge
    · have hj1 : (j : Int) < m := by omega
      obtain ⟨x, hx⟩ : ∃ x, l[j]? = some x := ⟨_, List.getElem?_eq_getElem (by rw [← HM.out]; exact hlt)⟩
      obtain ⟨y, hy⟩ : ∃ y, k[j]? = some y := ⟨_, List.getElem?_eq_getElem (by rw [← HN.out]; exact hlt)⟩
      obtain ⟨ad1, e1, x0, x1⟩ := HVr.at j x hx
      obtain ⟨ad2, e2, y0, y1⟩ := HUr.at j y hy
      subst e1 e2
      have HX := Lib.hid hx
      have HY := Lib.hid hy
      have HLT := Lib.hid hlt
      obtain ⟨xa, xb⟩ := x
      obtain ⟨ya, yb⟩ := y
      clear HVr HUr hx hy hlt
      dsimp only at x0 x1 y0 y1
      go_wp2_with fail
      have r1 : (xa.toList == ya.toList) = decide (xa = ya) := eq_lt _ _
      have r2 : (xb.toList == yb.toList) = decide (xb = yb) := eq_lt _ _
      by_cases heq : xa = ya ∧ xb = yb
      · rw [decide_eq_true heq.1] at r1
        rw [decide_eq_true heq.2] at r2
        have HEQ := Lib.hid heq
        clear heq
        refine wp_region_quiet (C := fun w' => Below wr.heap.size wr w') (by kernel_rfl) (by kernel_rfl) ((Below.refl _ _).drew) ?_
        repeat (
          with_reducible refine wpQuiet_step (fun K hK => ?_)
          go_simp
          first
            | (with_reducible refine hK _ ?_; clear hK K)
            | (apply Exists.intro
               refine ⟨fun v hv => ?_, hK _ ?_⟩
               (first
                 | with_reducible rfl
                 | (have d0 := (hv.cell (World.block_lt_of_cell? _ _ x0)).trans x0
                    have d1 := (hv.cell (World.block_lt_of_cell? _ _ x1)).trans x1
                    have d2 := (hv.cell (World.block_lt_of_cell? _ _ y0)).trans y0
                    have d3 := (hv.cell (World.block_lt_of_cell? _ _ y1)).trans y1
                    go_simp
                    with_reducible rfl))
               clear hK K))
        refine wpQuiet_nil ?_
        intro wf hk
        have BF := Lib.hid (BB.out.trans (hk.mono BB.out.size))
        clear hk x0 x1 y0 y1
        go_wp2
        go_roundw
        case rel => exact ⟨j + 1, HLT.out, by go_num, by rw [List.take_add_one, List.take_add_one, HALL.out, HX.out, HY.out, HEQ.out.1, HEQ.out.2], BF.out⟩
        case measure => have := HLT.out; simp [intOf]; omega
      · have E := Lib.hid (show r = false by
          rw [HR.out]
          refine decide_eq_false fun e => heq ?_
          have h := HX.out
          rw [e, HY.out] at h
          injection h with h
          injection h with h1 h2
          exact ⟨h1.symm, h2.symm⟩)
        by_cases h1 : xa = ya
        case' pos =>
          have h2 : ¬ xb = yb := fun h => heq ⟨h1, h⟩
          rw [decide_eq_true h1] at r1
          rw [decide_eq_false h2] at r2
          clear h1 h2
        case' neg =>
          rw [decide_eq_false h1] at r1
          clear h1 r2
        all_goals
          clear heq
          refine wp_region_quiet (C := fun w' => Below wr.heap.size wr w') (by kernel_rfl) (by kernel_rfl) ((Below.refl _ _).drew) ?_
          repeat (
            with_reducible refine wpQuiet_step (fun K hK => ?_)
            go_simp
            first
              | (with_reducible refine hK _ ?_; clear hK K)
              | (apply Exists.intro
                 refine ⟨fun v hv => ?_, hK _ ?_⟩
                 (first
                   | with_reducible rfl
                   | (have d0 := (hv.cell (World.block_lt_of_cell? _ _ x0)).trans x0
                      have d1 := (hv.cell (World.block_lt_of_cell? _ _ x1)).trans x1
                      have d2 := (hv.cell (World.block_lt_of_cell? _ _ y0)).trans y0
                      have d3 := (hv.cell (World.block_lt_of_cell? _ _ y1)).trans y1
                      go_simp
                      with_reducible rfl))
                 clear hK K))
          refine wpQuiet_nil ?_
          intro wf hk
          have BF := Lib.hid (BB.out.trans (hk.mono BB.out.size))
          clear hk x0 x1 y0 y1
          go_wp2
          go_ret
          exact ⟨by rw [E.out]; rfl, BF.out⟩
    · have hj1 : ¬ (j : Int) < m := by omega
      have E := Lib.hid (show r = true by
        rw [HR.out]
        refine decide_eq_true ?_
        have := HALL.out
        rwa [List.take_of_length_le (by rw [← HM.out]; exact hge), List.take_of_length_le (by rw [← HN.out]; exact hge)] at this)
      clear hge
      go_wp2
      go_ret
      exact ⟨by rw [E.out]; rfl, BB.out⟩
/-- A label's name by bytes. -/
def nmB (l : List UInt8) : ByteArray := ⟨⟨(wordL l).take 3⟩⟩
/-- Labels by bytes. -/
def few1 (ls : List (List UInt8)) (i : Nat) : ByteArray × ByteArray := (nmB (ls.getD i []), wordB (ls.getD (ls.length - 1 - i) []))
def fewL (ls : List (List UInt8)) : LL := (List.range (min ls.length 18)).map (few1 ls)
theorem fewL_sz (ls : List (List UInt8)) : ∀ x ∈ fewL ls, x.1.size ≤ 13 ∧ x.2.size ≤ 13 := by
  intro x hx
  obtain ⟨i, _, rfl⟩ := List.mem_map.1 hx
  have h1 := wordL_length (ls.getD i [])
  have h2 := wordL_length (ls.getD (ls.length - 1 - i) [])
  refine ⟨?_, h2⟩
  show ((wordL (ls.getD i [])).take 3).length ≤ 13
  rw [List.length_take]
  omega
theorem fewL_length (ls : List (List UInt8)) : (fewL ls).length = min ls.length 18 := by simp [fewL]
theorem few_raw (w : World) (v u : Value) : Calls Try.prog 12 #[v, u, .bool false] w fun e w' => e = .returned u ∧ Below w.heap.size w w' := by
  go_enter Try.func12, Try.ntmps12
  go_wp2
  go_ret
  exact ⟨rfl, Below.refl _ _⟩
set_option maxHeartbeats 8000000 in
set_option maxRecDepth 20000 in
theorem few_own (w : World) (v u : Value) (ls : List (List UInt8)) (hv : WRow w v ls) : Calls Try.prog 12 #[v, u, .bool true] w fun e w' => ∃ a, e = .returned a ∧ LRow w' a (fewL ls) ∧ Below w.heap.size w w' := by
  obtain ⟨i0, hi0, hz0, hz1, hz2⟩ := infoL2
  obtain ⟨a, cp, rfl, hcp, hmx, hat⟩ := id hv
  obtain ⟨m, hm⟩ : ∃ m, m = ls.length := ⟨_, rfl⟩
  rw [← hm] at hv hcp ⊢
  have HV := Lib.hid hv
  have HM := Lib.hid hm
  have hmx' : m ≤ 9223372036854775807 := Nat.le_trans hcp hmx
  clear hv hat hcp hmx hm
  go_enter Try.func12, Try.ntmps12
  go_wp2_with fail
  obtain ⟨B, hB⟩ : ∃ B, B = w.heap.size := ⟨_, rfl⟩
  have HB := Lib.hid hB
  clear hB
  go_loopw [7, 8] (fun v x wr => ∃ k : Nat, k ≤ m ∧ k ≤ 18 ∧ x = .int .i64 k ∧ wr.ownsRow B 42 2 v k (flat ((List.range k).map (few1 ls))) ∧ Below B w wr) (fun _ x _ => 18 - (intOf x).toNat)
  case atStart => exact ⟨0, Nat.zero_le _, by omega, rfl, ⟨rfl, .inl ⟨rfl, rfl⟩⟩, by rw [HB.out]; exact Below.refl _ _⟩
  case round =>
    obtain ⟨k, hk, hk18, rfl, own, bb⟩ := hrel
    have OWN := Lib.hid own
    have BB := Lib.hid bb
    have hbw : B ≤ wr.heap.size := by rw [HB.out]; exact bb.size
    obtain ⟨G, row, hG⟩ := Row.ofOwns own
    obtain ⟨av, cq, rfl, _⟩ := row.form
    have ROW := Lib.hid row
    clear own bb row hG
    by_cases hlt : k < m ∧ k < 18
    · obtain ⟨hl1, hl2⟩ := hlt
      have q1 : (k : Int) < m := by omega
      have q2 : (k : Int) < 18 := by omega
      have HLT := Lib.hid (And.intro hl1 hl2)
      obtain ⟨z, hz⟩ : ∃ z, z = m - 1 - k := ⟨_, rfl⟩
      have ez1 : IntKind.i64.wrap ((m : Int) - 1) = (m : Int) - 1 := by rw [IntKind.wrap_i64]; omega
      have ez2 : IntKind.i64.wrap ((m : Int) - 1 - (k : Int)) = (z : Int) := by rw [IntKind.wrap_i64]; omega
      have hzm : (z : Int) < m := by omega
      obtain ⟨x, hx⟩ : ∃ x, ls[k]? = some x := ⟨_, List.getElem?_eq_getElem (by rw [← HM.out]; exact hl1)⟩
      obtain ⟨y, hy⟩ : ∃ y, ls[z]? = some y := ⟨_, List.getElem?_eq_getElem (by rw [← HM.out]; omega)⟩
      have HVr := HV.out.mono (w' := wr) (by rw [← HB.out]; exact BB.out)
      obtain ⟨a1, c1, e1, _, _, hat⟩ := HVr
      rw [← HM.out] at e1
      cases e1
      obtain ⟨ad, xv, rfl, c0, rx⟩ := hat k x hx
      obtain ⟨ad', yv, e2, c1, ry⟩ := hat z y hy
      cases e2
      have RX := Lib.hid rx
      have RY := Lib.hid ry
      have HF := Lib.hid (show few1 ls k = (nmB x, wordB y) by
        unfold few1
        rw [← HM.out, ← hz]
        simp [List.getD_eq_getElem?_getD, hx, hy])
      clear hat hx hy hl1 hl2 hz rx ry
      obtain ⟨xa, xn, xc, hxe⟩ : ∃ xa xn xc, xv = .slice xa xn xc := by obtain ⟨xa, xc, e, _⟩ := RX.out; exact ⟨_, _, _, e⟩
      obtain ⟨ya, yn, yc, hye⟩ : ∃ ya yn yc, yv = .slice ya yn yc := by obtain ⟨ya, yc, e, _⟩ := RY.out; exact ⟨_, _, _, e⟩
      subst hxe hye
      go_wp2_with fail
      refine (word_any wr _ x RX.out).mono ?_
      rintro e w1 ⟨rfl, b1⟩
      have OW1 := Lib.hid (owns_same OWN.out fun g h1 h2 => b1.block g h2)
      have B1 := Lib.hid (BB.out.trans (b1.mono hbw))
      have hbw1 := Nat.le_trans hbw b1.size
      have KW := Lib.hid (word_any w1 _ y (RY.out.mono b1))
      replace c0 := (b1.cell (World.block_lt_of_cell? _ _ c0)).trans c0
      replace c1 := (b1.cell (World.block_lt_of_cell? _ _ c1)).trans c1
      clear b1
      have hws : (wordB x).size = (wordL x).length := mk_size _
      have hwl := wordL_length x
      by_cases h3 : 3 < (wordB x).size
      case' pos =>
        have t1 : (3 : Int) < ((wordB x).size : Int) := by omega
        have hle3 : (3 : Int) ≤ ((wordB x).size : Int) := by omega
        have EN := Lib.hid (show (wordB x).extract 0 3 = nmB x by
          refine bytes_ext ?_
          rw [Lib.extract_data]
          rfl)
      case' neg =>
        have t1 : decide ((3 : Int) < ((wordB x).size : Int)) = false := by simp; omega
        have EN := Lib.hid (show wordB x = nmB x by
          refine bytes_ext ?_
          show wordL x = (wordL x).take 3
          rw [List.take_of_length_le (by omega)])
      all_goals
        clear h3 hws hwl
        go_wp2_with fail
        rw [EN.out]
        refine KW.out.mono ?_
        rintro e w2 ⟨rfl, b2⟩
        have OW2 := Lib.hid (owns_same OW1.out fun g h1 h2 => b2.block g h2)
        have B2 := Lib.hid (B1.out.trans (b2.mono hbw1))
        have hbw2 := Nat.le_trans hbw1 b2.size
        have OW5 := Lib.hid (OW2.out.alloc (.cells #[.string (nmB x), .string (wordB y)] 42))
        have A2 : ∀ ad, (some ⟨w2.heap.size, 0, none⟩ : Option Addr) = some ad → ∀ j u, [Value.string (nmB x), .string (wordB y)][j]? = some u → (w2.alloc (.cells #[.string (nmB x), .string (wordB y)] 42)).cell? (ad.add j) = some u := fun ad e j y hy => by cases e; exact two_new _ _ _ _ j y hy
        have A3 : ∀ u ∈ [Value.string (nmB x), .string (wordB y)], u.oneCell' = true := fun u hu => by simp at hu; rcases hu with rfl | rfl <;> rfl
        have A4 : k + 1 ≤ maxLen := by unfold maxLen; omega
        have A5 : (k + 1) * 32 ≤ 140737488355328 := by omega
        have A6 : B ≤ (w2.alloc (.cells #[.string (nmB x), .string (wordB y)] 42)).heap.size := by simp; omega
        clear b2 KW c0 c1
        go_wp2_with (at_builtin; refine append_any _ rfl _ _ 28 rfl B 42 i0 (.agg #[.string ⟨#[]⟩, .string ⟨#[]⟩]) 2 32 Try.underlying28 hi0 hz0 hz1 hz2 rfl (by decide) _ k (flat ((List.range k).map (few1 ls))) rfl OW5.out (some ⟨w2.heap.size, 0, none⟩) 1 1 [.string (nmB x), .string (wordB y)] rfl (fun e => nomatch e) rfl A2 A3 A4 A5 A6 ?_)
        intro v5 w5 o5 b5
        have B5 := Lib.hid (show Below B w w5 from B2.out.trans (((Below.refl B w2).alloc hbw2 _).trans b5))
        have O5 := Lib.hid (show w5.ownsRow B 42 2 v5 (k + 1) (flat ((List.range (k + 1)).map (few1 ls))) by
          rw [List.range_succ, List.map_append, flat_append, List.map_singleton, HF.out]; exact o5)
        clear A2 A3 A4 A5 A6 o5 b5 OW5 hbw1 hbw2
        go_wp2
        go_roundw
        case rel => exact ⟨k + 1, HLT.out.1, HLT.out.2, by go_num, O5.out, B5.out⟩
        case measure => simp [intOf]; have := HLT.out; omega
    · have E := Lib.hid (show (List.range k).map (few1 ls) = fewL ls by
        unfold fewL
        rw [← HM.out]
        congr 2
        omega)
      have HKL := Lib.hid (show k = (fewL ls).length by rw [fewL_length, ← HM.out]; omega)
      rw [E.out] at ROW
      have LR := Lib.hid (show LRow wr (.slice av k cq) (fewL ls) by rw [HKL.out]; exact LRow.ofRow (l := fewL ls) (by rw [← HKL.out]; exact ROW.out))
      by_cases him2 : k < m
      case' pos =>
        obtain rfl : k = 18 := by omega
        have q1 : ((18 : Nat) : Int) < m := by omega
      case' neg =>
        obtain rfl : k = m := by omega
      all_goals
        clear hlt him2
        go_wp2
        go_ret
        exact ⟨_, rfl, LR.out, by rw [← HB.out]; exact BB.out⟩
end Go.Proofs.Ytlmnniajindlgaa.HLab
