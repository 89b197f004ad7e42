/- Labels: Split, Metric, walked. Conditions: sizes. -/
import Derived.Test.YtlmnniajindlgaaLab9
import Derived.Test.YtlmnniajindlgaaLab4
import Derived.Test.YtlmnniajindlgaaLabPlain
namespace Go.Proofs.Ytlmnniajindlgaa.HLab
set_option linter.unusedVariables false
open Go.RowKit Go.Proofs.Ytlmnniajindlgaa.HMem Go.Proofs.Ytlmnniajindlgaa.HBld Go.Proofs.Ytlmnniajindlgaa.HApp

/-- What is read when so many labels are still to come. -/
def contL (name : ByteArray) (acc : LL) (k : Nat) (rest : List UInt8) : Option (ByteArray × LL × List UInt8) := (takeN k rest).map fun x => (name, acc ++ x.1, x.2)
theorem contL_zero (name : ByteArray) (acc : LL) (rest : List UInt8) : contL name acc 0 rest = some (name, acc, rest) := by simp [contL, takeN]
theorem contL_none (name : ByteArray) (acc : LL) (k : Nat) (rest : List UInt8) (h : takeT rest = none) : contL name acc (k + 1) rest = none := by
  unfold contL takeN; rw [h]; rfl
theorem contL_none2 (name : ByteArray) (acc : LL) (k : Nat) (rest r1 : List UInt8) (a : ByteArray) (h : takeT rest = some (a, r1)) (h2 : takeT r1 = none) : contL name acc (k + 1) rest = none := by
  unfold contL takeN; rw [h]; simp only []; rw [h2]; rfl
theorem contL_step (name : ByteArray) (acc : LL) (k : Nat) (rest r1 r2 : List UInt8) (a b : ByteArray) (h : takeT rest = some (a, r1)) (h2 : takeT r1 = some (b, r2)) : contL name acc (k + 1) rest = contL name (acc ++ [(a, b)]) k r2 := by
  unfold contL
  rw [takeN, h]; simp only []; rw [h2]; simp only []
  cases takeN k r2 with
  | none => rfl
  | some p => simp
theorem readL_cont (key : List UInt8) (name : ByteArray) (c : UInt8) (r : List UInt8) (h : takeT key = some (name, c :: r)) : readL key = contL name [] c.toNat r := by
  unfold readL contL
  rw [h]
  simp only []
  cases takeN c.toNat r with
  | none => rfl
  | some p => rfl
theorem readL_none (key : List UInt8) (h : takeT key = none) : readL key = none := by unfold readL; rw [h]
theorem readL_nil (key : List UInt8) (name : ByteArray) (h : takeT key = some (name, [])) : readL key = none := by unfold readL; rw [h]
/-- How far the reading is told by what is left. -/
def Way (key name : ByteArray) (acc : LL) (k : Nat) (rest : ByteArray) (bad : Bool) : Prop :=
  (bad = true ∧ readL key.data.toList = none) ∨ (bad = false ∧ readL key.data.toList = contL name acc k rest.data.toList)
/-- What Split answers. -/
def SplitAns (w : World) (key : ByteArray) (e : Ending) (w' : World) : Prop :=
  (∃ (n : ByteArray) (s : LL) (v : Value) (G : List Nat), IsKey key n s ∧ e = .returned (.tuple #[.string n, v, .bool true]) ∧ Row 42 2 w' v s.length (flat s) G ∧ (∀ g ∈ G, w.heap.size ≤ g) ∧ Below w.heap.size w w') ∨
  ((∀ n s, ¬ IsKey key n s) ∧ e = .returned (.tuple #[.string ⟨#[]⟩, .slice none 0 0, .bool false]) ∧ Below w.heap.size w w')
theorem nokey {key : ByteArray} (h : readL key.data.toList = none) : ∀ n s, ¬ IsKey key n s := fun n s k => by rw [k.read] at h; cases h
set_option maxHeartbeats 16000000 in
set_option maxRecDepth 20000 in
theorem Split_any (w : World) (key : ByteArray) (hk : key.size ≤ 140737488355328) : Calls Try.prog 14 #[.string key] w (SplitAns w key) := by
  obtain ⟨i0, hi0, hz0, hz1, hz2⟩ := infoL2
  go_enter Try.func14, Try.ntmps14
  go_wp2_with fail
  obtain ⟨r, hr⟩ : ∃ r, r = w.heap.size := ⟨_, rfl⟩
  obtain ⟨W, hW⟩ : ∃ W, W = w.alloc (.cells #[.string key, .bool false] 56) := ⟨_, rfl⟩
  have BW := Lib.hid (show Below r w W by rw [hW, hr]; exact (Below.refl _ _).alloc (Nat.le_refl _) _)
  have D0 := Lib.hid (show RdAt W r key false by rw [hW, hr]; exact heap_alloc_new w _)
  have HR := Lib.hid hr
  rw [← hW, ← hr]
  clear hW hr
  refine (text_any W r key false D0.out hk).mono ?_
  rintro e w1 ⟨name, rest1, bad1, rfl, d1, g1, hn1, hr1, hc1⟩
  have D1 := Lib.hid d1
  have B1 := Lib.hid (BW.out.trans (g1.below (fun k e => (by have e' : k = r := e; omega)) (Nat.le_of_lt (heap_lt D0.out))))
  have HC1 := Lib.hid hc1
  have HN1 := Lib.hid hn1
  have HR1 := Lib.hid hr1
  clear d1 g1 hc1 hn1 hr1 BW D0
  go_wp2_with fail
  refine (number_any w1 r rest1 bad1 D1.out).mono ?_
  rintro e w2 ⟨m, rest2, bad2, rfl, d2, g2, hm, hc2⟩
  have D2 := Lib.hid d2
  have B2 := Lib.hid (B1.out.trans (g2.below (fun k e => (by have e' : k = r := e; omega)) (Nat.le_of_lt (heap_lt D1.out))))
  have HM := Lib.hid hm
  have HW := Lib.hid (show Way key name [] m rest2 bad2 by
    rcases HC1.out with ⟨h1, hb1⟩ | ⟨h1, hb1⟩
    · rcases hc2 with ⟨_, _, _, h2⟩ | ⟨c, _, _, h2⟩
      · exact .inl ⟨h2, readL_none _ h1⟩
      · exact .inl ⟨h2.trans hb1, readL_none _ h1⟩
    · rcases hc2 with ⟨h3, _, _, h2⟩ | ⟨c, h3, h4, h2⟩
      · exact .inl ⟨h2, readL_nil _ name (by rw [h1, h3])⟩
      · exact .inr ⟨h2.trans hb1, by rw [h4]; exact readL_cont _ _ _ _ (by rw [h1, h3])⟩)
  have HS2 := Lib.hid (show rest2.size ≤ key.size by
    rcases hc2 with ⟨_, _, rfl, _⟩ | ⟨c, hc, _, _⟩
    · exact HR1.out
    · have := congrArg List.length hc
      rw [List.length_cons, list_size, list_size] at this
      have := HR1.out
      omega)
  clear d2 g2 hm hc2 D1 B1 HC1 HR1
  go_wp2_with fail
  go_loopw [3, 6] (fun v i wr => ∃ (k : Nat) (acc : LL) (rest : ByteArray) (bad : Bool), i = .int .i64 k ∧ acc.length + k = m ∧ wr.ownsRow (r + 1) 42 2 v acc.length (flat acc) ∧ RdAt wr r rest bad ∧ rest.size ≤ key.size ∧ Way key name acc k rest bad ∧ Szs acc ∧ Below r w wr) (fun _ i _ => (intOf i).toNat)
  case atStart => exact ⟨m, [], rest2, bad2, rfl, by simp, ⟨rfl, .inl ⟨rfl, rfl⟩⟩, D2.out, HS2.out, HW.out, (fun x hx => (by cases hx)), B2.out⟩
  case round =>
    obtain ⟨k, acc, rest, bad, rfl, hak, own, hd, hrs, way, szs, bb⟩ := hrel
    obtain ⟨c0, c1, f0, f1⟩ := hd.cells
    have OWN := Lib.hid own
    have HD := Lib.hid hd
    have HRS := Lib.hid hrs
    have WAY := Lib.hid way
    have SZS := Lib.hid szs
    have BB := Lib.hid bb
    have HAK := Lib.hid hak
    obtain ⟨G, row, hG⟩ := Row.ofOwns own
    obtain ⟨av, cp, rfl, _⟩ := row.form
    have ROW := Lib.hid row
    have HG := Lib.hid hG
    have LR := Lib.hid (LRow.ofRow row)
    have hrw := heap_lt hd
    have hal : acc.length ≤ 255 := by have := HM.out; omega
    have KK := Lib.hid (Key_any wr (.slice av acc.length cp) acc name LR.out (by omega) szs (by have := HN1.out; omega))
    clear own hd hrs way szs bb hak row hG
    cases bad with
    | true =>
      have HNO := Lib.hid (show ∀ n s, ¬ IsKey key n s from nokey (by
        rcases WAY.out with ⟨_, h⟩ | ⟨h, _⟩
        · exact h
        · cases h))
      cases k
      case' zero => go_wp2_with fail
      case' succ k =>
        have t1 : (0 : Int) < ((k + 1 : Nat) : Int) := by omega
        go_wp2_with fail
      all_goals
        refine KK.out.mono ?_
        rintro e w3 ⟨rfl, b3⟩
        have B3 := Lib.hid (BB.out.trans (b3.mono (Nat.le_of_lt hrw)))
        have d1 := (b3.cell (World.block_lt_of_cell? _ _ c1)).trans c1
        obtain ⟨⟨z1, z2⟩, hz⟩ : ∃ z, z = keyL name acc := ⟨_, rfl⟩
        rw [← hz]
        clear b3 KK c0 c1 hz
        go_wp2
        go_ret3
        exact .inr ⟨HNO.out, rfl, by rw [← HR.out]; exact B3.out⟩
    | false =>
      cases k with
      | zero =>
        have HRD := Lib.hid (show readL key.data.toList = some (name, acc, rest.data.toList) by
          rcases WAY.out with ⟨h, _⟩ | ⟨_, h⟩
          · cases h
          · rw [h, contL_zero])
        go_wp2_with fail
        refine KK.out.mono ?_
        rintro e w3 ⟨rfl, b3⟩
        have B3 := Lib.hid (BB.out.trans (b3.mono (Nat.le_of_lt hrw)))
        have d1 := (b3.cell (World.block_lt_of_cell? _ _ c1)).trans c1
        have R3 := Lib.hid (ROW.out.same (Same.own b3 ROW.out.own))
        clear b3 KK c0 c1
        by_cases hkey : keyL name acc = (key, 0)
        · obtain ⟨s, hs, ik⟩ := IsKey.of hkey
          have e1 := ik.read.symm.trans HRD.out
          simp at e1
          obtain rfl := e1.1
          have IK := Lib.hid ik
          rw [hkey]
          have t2 : (key.toList == key.toList) = true := by simp
          clear hkey hs ik e1
          go_wp2
          go_ret3
          exact .inl ⟨name, _, _, G, IK.out, rfl, R3.out, fun g h => (by rw [← HR.out]; have := HG.out g h; omega), by rw [← HR.out]; exact B3.out⟩
        · have HNO := Lib.hid (show ∀ n s, ¬ IsKey key n s from fun n s ik => by
            have e1 := ik.read.symm.trans HRD.out
            simp at e1
            obtain ⟨rfl, rfl, _⟩ := e1
            exact hkey ik.key)
          obtain ⟨⟨z1, z2⟩, hz⟩ : ∃ z, z = keyL name acc := ⟨_, rfl⟩
          rw [← hz] at hkey ⊢
          clear hz
          by_cases h0 : z2 = 0
          · subst h0
            have t2 : (z1.toList == key.toList) = false := by
              rw [eq_lt]
              exact decide_eq_false fun e => hkey (by rw [e])
            clear hkey
            go_wp2
            go_ret3
            exact .inr ⟨HNO.out, rfl, by rw [← HR.out]; exact B3.out⟩
          · have t2 : (z2 != 0) = true := by rw [bne_iff_ne]; exact h0
            clear hkey h0
            go_wp2
            go_ret3
            exact .inr ⟨HNO.out, rfl, by rw [← HR.out]; exact B3.out⟩
      | succ k =>
        have t1 : (0 : Int) < ((k + 1 : Nat) : Int) := by omega
        clear KK
        go_wp2_with fail
        refine (text_any wr r rest false HD.out (by have := HRS.out; omega)).mono ?_
        rintro e w3 ⟨s1, r1, b1, rfl, d3, g3, hs1, hr1, hc3⟩
        have D3 := Lib.hid d3
        have G3 := Lib.hid g3
        have HC3 := Lib.hid hc3
        have HS1 := Lib.hid hs1
        have HR1 := Lib.hid hr1
        clear d3 g3 hc3 hs1 hr1 c0 c1 f0 f1
        go_wp2_with fail
        refine (text_any w3 r r1 b1 D3.out (by have := HRS.out; have := HR1.out; omega)).mono ?_
        rintro e w4 ⟨s2, r2, b2, rfl, d4, g4, hs2, hr2, hc4⟩
        have D4 := Lib.hid d4
        have G4 := Lib.hid (G3.out.trans g4)
        have B4 := Lib.hid (BB.out.trans (G4.out.below (fun k e => (by have e' : k = r := e; omega)) (Nat.le_of_lt hrw)))
        have OW4 := Lib.hid (owns_same OWN.out fun g h1 h2 => G4.out.block g h2 (fun e => (by have e' : g = r := e; omega)))
        have SZ4 := Lib.hid (show Szs (acc ++ [(s1, s2)]) from fun x hx => by
          rcases List.mem_append.1 hx with hx | hx
          · exact SZS.out x hx
          · simp at hx
            subst hx
            have h1 := HS1.out
            have h2 := HR1.out
            have h3 := HRS.out
            exact ⟨(by show s1.size ≤ _; omega), (by show s2.size ≤ _; omega)⟩)
        have WY4 := Lib.hid (show Way key name (acc ++ [(s1, s2)]) k r2 b2 by
          have hw : readL key.data.toList = contL name acc (k + 1) rest.data.toList := by
            rcases WAY.out with ⟨h, _⟩ | ⟨_, h⟩
            · cases h
            · exact h
          rcases HC3.out with ⟨h1, hb1⟩ | ⟨h1, hb1⟩
          · refine .inl ⟨?_, by rw [hw, contL_none _ _ _ _ h1]⟩
            rcases hc4 with ⟨_, h2⟩ | ⟨_, h2⟩
            · exact h2
            · exact h2.trans hb1
          · rcases hc4 with ⟨h3, h2⟩ | ⟨h3, h2⟩
            · exact .inl ⟨h2, by rw [hw, contL_none2 _ _ _ _ _ _ h1 h3]⟩
            · exact .inr ⟨h2.trans hb1, by rw [hw, contL_step _ _ _ _ _ _ _ _ h1 h3]⟩)
        have HR2 := Lib.hid (show r2.size ≤ key.size by have := HRS.out; have := HR1.out; omega)
        have hr4 := heap_lt d4
        clear d4 g4 hs2 hr2 hc4
        have OW5 := Lib.hid (OW4.out.alloc (.cells #[.string s1, .string s2] 42))
        have A2 : ∀ ad, (some ⟨w4.heap.size, 0, none⟩ : Option Addr) = some ad → ∀ j u, [Value.string s1, .string s2][j]? = some u → (w4.alloc (.cells #[.string s1, .string s2] 42)).cell? (ad.add j) = some u := fun ad e j y hy => by cases e; exact two_new _ _ _ _ j y hy
        have A3 : ∀ u ∈ [Value.string s1, .string s2], u.oneCell' = true := fun u hu => by simp at hu; rcases hu with rfl | rfl <;> rfl
        have A4 : acc.length + 1 ≤ maxLen := by unfold maxLen; omega
        have A5 : (acc.length + 1) * 32 ≤ 140737488355328 := by omega
        have A6 : r + 1 ≤ (w4.alloc (.cells #[.string s1, .string s2] 42)).heap.size := by simp; omega
        go_wp2_with (at_builtin; refine append_any _ rfl _ _ 28 rfl (r + 1) 42 i0 (.agg #[.string ⟨#[]⟩, .string ⟨#[]⟩]) 2 32 Try.underlying28 hi0 hz0 hz1 hz2 rfl (by decide) _ acc.length (flat acc) rfl OW5.out (some ⟨w4.heap.size, 0, none⟩) 1 1 [.string s1, .string s2] rfl (fun e => nomatch e) rfl A2 A3 A4 A5 A6 ?_)
        intro v5 w5 o5 b5
        have D5 := Lib.hid (show RdAt w5 r r2 b2 from (b5.block r (by omega)).trans ((Lib.alloc_old w4 _ r hr4).trans D4.out))
        have B5 := Lib.hid (show Below r w w5 from (B4.out.alloc (Nat.le_of_lt hr4) _).trans (b5.mono (by omega)))
        have O5 := Lib.hid (show w5.ownsRow (r + 1) 42 2 v5 (acc ++ [(s1, s2)]).length (flat (acc ++ [(s1, s2)])) by
          rw [List.length_append, flat_append]; exact o5)
        have HAK2 := Lib.hid (show (acc ++ [(s1, s2)]).length + k = m by rw [List.length_append]; have := HAK.out; simp; omega)
        clear A2 A3 A4 A5 A6 o5 b5 OW5
        have hk255 : (k : Int) ≤ 255 := by have := HAK.out; have := HM.out; omega
        have hkn : k ≤ 255 := by omega
        go_wp2
        go_roundw
        case rel => exact ⟨k, _, r2, b2, by go_num, HAK2.out, O5.out, D5.out, HR2.out, WY4.out, SZ4.out, B5.out⟩
        case measure => simp [intOf]
theorem Metric_any (w : World) (key : ByteArray) (hk : key.size ≤ 140737488355328) :
    Calls Try.prog 19 #[.string key] w fun e w' => ((∃ n s, IsKey key n s ∧ e = .returned (.string n)) ∨ ((∀ n s, ¬ IsKey key n s) ∧ e = .returned (.string ⟨#[]⟩))) ∧ Below w.heap.size w w' := by
  go_enter Try.func19, Try.ntmps19
  go_wp2_with fail
  refine (Split_any w key hk).mono ?_
  rintro e w1 (⟨n, s, v, G, ik, rfl, row, hG, b1⟩ | ⟨hno, rfl, b1⟩)
  · have B1 := Lib.hid b1
    have IK := Lib.hid ik
    clear ik row hG b1
    go_wp2
    go_ret
    exact ⟨.inl ⟨n, s, IK.out, rfl⟩, B1.out⟩
  · have B1 := Lib.hid b1
    have HNO := Lib.hid hno
    clear hno b1
    go_wp2
    go_ret
    exact ⟨.inr ⟨HNO.out, rfl⟩, B1.out⟩
end Go.Proofs.Ytlmnniajindlgaa.HLab
