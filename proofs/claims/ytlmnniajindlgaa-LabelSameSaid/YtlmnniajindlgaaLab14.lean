/- Labels: Text, walked. Conditions: sizes. -/
import Derived.Test.YtlmnniajindlgaaLab13
import Derived.Test.YtlmnniajindlgaaQTail
namespace Go.Proofs.Ytlmnniajindlgaa.HLab
set_option linter.unusedVariables false
open Go.RowKit Go.Proofs.Ytlmnniajindlgaa.HMem Go.Proofs.Ytlmnniajindlgaa.HBld Go.Proofs.Ytlmnniajindlgaa.HApp

/-- A label told. -/
def one1 (x : ByteArray × ByteArray) : List UInt8 := [44] ++ escL x.1.data.toList ++ [61] ++ escL x.2.data.toList
def tailL : LL → List UInt8
  | [] => []
  | x :: r => one1 x ++ tailL r
def textL (n : ByteArray) (s : LL) : List UInt8 := escL n.data.toList ++ tailL s
theorem tailL_append : ∀ (a b : LL), tailL (a ++ b) = tailL a ++ tailL b
  | [], b => rfl
  | x :: r, b => by rw [List.cons_append, tailL, tailL_append r b, tailL, List.append_assoc]
theorem tailL_take (s : LL) (j : Nat) (x : ByteArray × ByteArray) (h : s[j]? = some x) : tailL (s.take (j + 1)) = tailL (s.take j) ++ one1 x := by
  rw [List.take_add_one, h, tailL_append]
  simp [tailL]
theorem one1_length (x : ByteArray × ByteArray) (h : x.1.size < 256 ∧ x.2.size < 256) : (one1 x).length ≤ 1100 := by
  have h1 := escL_length x.1.data.toList
  have h2 := escL_length x.2.data.toList
  rw [list_size] at h1 h2
  unfold one1
  simp only [List.length_append, List.length_singleton]
  omega
theorem tailL_length : ∀ (s : LL), (∀ x ∈ s, x.1.size < 256 ∧ x.2.size < 256) → (tailL s).length ≤ s.length * 1100
  | [], h => Nat.zero_le _
  | x :: r, h => by
    have h1 := one1_length x (h x (by simp))
    have h2 := tailL_length r fun y hy => h y (by simp [hy])
    rw [tailL, List.length_append, List.length_cons, Nat.add_mul]
    omega
/-- What Text answers. -/
def TextAns (w : World) (key : ByteArray) (e : Ending) (w' : World) : Prop :=
  ((∃ (n : ByteArray) (s : LL), IsKey key n s ∧ e = .returned (.string ⟨⟨textL n s⟩⟩)) ∨ ((∀ n s, ¬ IsKey key n s) ∧ e = .returned (.string ⟨#[]⟩))) ∧ Below w.heap.size w w'
set_option maxHeartbeats 4000000 in
set_option maxRecDepth 20000 in
theorem Text_any (w : World) (key : ByteArray) (hk : key.size ≤ 140737488355328) : Calls Try.prog 17 #[.string key] w (TextAns w key) := by
  go_enter Try.func17, Try.ntmps17
  go_wp2_with fail
  refine (Split_any w key hk).mono ?_
  rintro e w1 (⟨n, s, v, G, ik, rfl, row, hG, b1⟩ | ⟨hno, rfl, b1⟩)
  rotate_left
  · have B1 := Lib.hid b1
    have HNO := Lib.hid hno
    clear hno b1
    go_wp2
    go_ret
    exact ⟨.inr ⟨HNO.out, rfl⟩, B1.out⟩
  have B1 := Lib.hid b1
  have IK := Lib.hid ik
  have HSZ := Lib.hid ik.sizes
  have hsl := ik.sizes.2.1
  have hns := ik.sizes.1
  obtain ⟨m, hm⟩ : ∃ m, m = s.length := ⟨_, rfl⟩
  rw [← hm] at row hsl
  have HM := Lib.hid hm
  obtain ⟨av, cp, rfl, _⟩ := row.form
  have ROW := Lib.hid row
  clear ik row hG b1 hm
  go_wp2_with fail
  obtain ⟨b, hb⟩ : ∃ b, b = w1.heap.size := ⟨_, rfl⟩
  obtain ⟨W, hW⟩ : ∃ W, W = w1.alloc (.cells #[.pointer none, .slice none 0 0] 63) := ⟨_, rfl⟩
  have BW := Lib.hid (show Below b w1 W by rw [hW, hb]; exact (Below.refl _ _).alloc (Nat.le_refl _) _)
  have D0 := Lib.hid (show BldAt W b [b] [] by rw [hW, hb]; exact BldAt.new w1)
  have HBW := Lib.hid (show w.heap.size ≤ b by rw [hb]; exact B1.out.size)
  have RG := Lib.hid (show ∀ g ∈ G, g < b from fun g hg => by rw [hb]; exact (ROW.out.own.mem g hg).2)
  rw [← hW, ← hb]
  clear hW hb
  refine (Escape_any n W (by omega)).mono ?_
  rintro e w2 ⟨rfl, b2⟩
  have hbW : b ≤ W.heap.size := Nat.le_of_lt (D0.out.own.mem b (by simp)).2
  have B2 := Lib.hid (BW.out.trans (b2.mono hbW))
  have D2 := Lib.hid (D0.out.mono b2)
  have HB2 := Lib.hid (Nat.le_trans hbW b2.size)
  have hle := escL_length n.data.toList
  rw [list_size] at hle
  have hz : (⟨⟨escL n.data.toList⟩⟩ : ByteArray).size ≤ 600 := by rw [mk_size]; omega
  obtain ⟨T, hT⟩ : ∃ T : ByteArray, T = ⟨⟨escL n.data.toList⟩⟩ := ⟨_, rfl⟩
  have HTT := Lib.hid hT
  rw [← hT] at hz ⊢
  clear b2 BW D0 hbW hT hle
  go_wp2_with fail
  refine (str_any D2.out T (by simp; omega)).mono ?_
  rintro e w3 ⟨rfl, G3, h3, t3⟩
  have D3 := Lib.hid (show BldAt w3 b G3 (escL n.data.toList ++ tailL (s.take 0)) by
    rw [HTT.out] at h3
    simpa [tailL] using h3)
  have B3 := Lib.hid (t3.bel D2.out.own B2.out HB2.out)
  clear h3 t3 D2 B2 HB2
  go_wp2_with fail
  have HES := Lib.hid (show (escL n.data.toList).length ≤ 600 by rw [← mk_size, ← HTT.out]; exact hz)
  clear hz hns
  go_loopw [22] (fun x wr => ∃ (j : Nat) (Gj : List Nat), j ≤ m ∧ x = .int .i64 j ∧ BldAt wr b Gj (escL n.data.toList ++ tailL (s.take j)) ∧ Below b w1 wr) (fun x _ => m - (intOf x).toNat)
  case atStart => exact ⟨0, G3, Nat.zero_le _, rfl, D3.out, B3.out⟩
  case round =>
    obtain ⟨j, Gj, hj, rfl, hd, bb⟩ := hrel
    have HD := Lib.hid hd
    have BB := Lib.hid bb
    have hlen : (escL n.data.toList ++ tailL (s.take j)).length ≤ 600 + 16 * 1100 := by
      have h1 := tailL_length (s.take j) (fun x hx => HSZ.out.2.2 x (List.mem_of_mem_take hx))
      have h2 : (s.take j).length ≤ 16 := by rw [List.length_take]; have := HM.out; omega
      have h3 := Nat.mul_le_mul_right 1100 h2
      rw [List.length_append]
      have := HES.out
      omega
    clear hd bb
    rcases Nat.lt_or_ge j m with hlt | hge
    · have hj1 : (j : Int) < m := by omega
      obtain ⟨x, hx⟩ : ∃ x, s[j]? = some x := ⟨_, List.getElem?_eq_getElem (by rw [← HM.out]; exact hlt)⟩
      have RR := ROW.out.same (w' := wr) fun g hg => BB.out.block g (RG.out g hg)
      obtain ⟨g, off, cap', e1, _, _, _, hc⟩ := RR.there (by omega)
      cases e1
      have c0 := (hc _ _ (flat_get s j x hx).1).1
      have c1 := (hc _ _ (flat_get s j x hx).2).1
      rw [← Nat.add_assoc] at c1
      obtain ⟨a, d⟩ := x
      have hsz : a.size < 256 ∧ d.size < 256 := HSZ.out.2.2 (a, d) (List.mem_of_getElem? hx)
      have HX := Lib.hid (tailL_take s j (a, d) hx)
      have HLT := Lib.hid hlt
      have HZ := Lib.hid hsz
      clear hc hx hlt RR hsz
      go_wp2_with fail
      obtain ⟨W6, hW6⟩ : ∃ W6, W6 = wr.alloc (.cells #[.string a, .string d] 42) := ⟨_, rfl⟩
      obtain ⟨X, hX⟩ : ∃ X, X = wr.heap.size := ⟨_, rfl⟩
      have x0 : W6.cell? ⟨X, 0, none⟩ = some (.string a) := by rw [hW6, hX, new_cell]; rfl
      have x1 : W6.cell? ⟨X, 1, none⟩ = some (.string d) := by rw [hW6, hX, new_cell]; rfl
      have BW6 := Lib.hid (show Below wr.heap.size wr W6 by rw [hW6]; exact (Below.refl _ _).alloc (Nat.le_refl _) _)
      have D6 := Lib.hid (HD.out.mono BW6.out)
      have hbw : b ≤ wr.heap.size := by
        have := (HD.out.own.mem b (by obtain ⟨_, _, _, _, _, _, rfl⟩ := HD.out.ex; simp)).2
        omega
      have hbw6 := Nat.le_trans hbw BW6.out.size
      have B6 := Lib.hid (BB.out.trans (BW6.out.mono hbw))
      have HBW6 := Lib.hid hbw6
      rw [← hW6, ← hX]
      clear hW6 hX c0 c1 hbw hbw6
      have K1 := Lib.hid (fun (v : World) (_ : Below W6.heap.size W6 v) => Escape_any a v (by have := HZ.out; omega))
      have K2 := Lib.hid (fun (v : World) (_ : Below W6.heap.size W6 v) => Escape_any d v (by have := HZ.out; omega))
      have hz1 : (⟨⟨escL a.data.toList⟩⟩ : ByteArray).size ≤ 600 := by have := escL_length a.data.toList; rw [list_size] at this; rw [mk_size]; have := HZ.out; omega
      have hz2 : (⟨⟨escL d.data.toList⟩⟩ : ByteArray).size ≤ 600 := by have := escL_length d.data.toList; rw [list_size] at this; rw [mk_size]; have := HZ.out; omega
      obtain ⟨T1, hT1⟩ : ∃ T : ByteArray, T = ⟨⟨escL a.data.toList⟩⟩ := ⟨_, rfl⟩
      obtain ⟨T2, hT2⟩ : ∃ T : ByteArray, T = ⟨⟨escL d.data.toList⟩⟩ := ⟨_, rfl⟩
      rw [← hT1] at K1 hz1
      rw [← hT2] at K2 hz2
      have HT := Lib.hid (show (⟨#[44]⟩ ++ T1 ++ ⟨#[61]⟩ ++ T2 : ByteArray) = ⟨⟨one1 (a, d)⟩⟩ by
        rw [hT1, hT2, show (⟨#[44]⟩ : ByteArray) = ⟨⟨[44]⟩⟩ from rfl, show (⟨#[61]⟩ : ByteArray) = ⟨⟨[61]⟩⟩ from rfl, mk_app, mk_app, mk_app]; rfl)
      have q1 : ¬ 9223372036854775807 < 1 + T1.size := by omega
      have q2 : ¬ 9223372036854775807 < 1 + T1.size + 1 := by omega
      have q3 : ¬ 9223372036854775807 < 1 + T1.size + 1 + T2.size := by omega
      clear hT1 hT2
      refine QTail.wp_region_quiet_tail (C := fun w' => Below W6.heap.size W6 w') 9 (by kernel_rfl) (by kernel_rfl) ((Below.refl _ _).drew) ?_
      simp only [List.take_succ_cons, List.take_zero]
      repeat (
        with_reducible refine wpQuiet_step (fun K hK => ?_)
        go_simp
        first
          | (with_reducible refine hK _ ?_; clear hK K)
          | (apply Exists.intro
             refine ⟨fun v hv => ?_, hK _ ?_⟩
             (first
               | with_reducible rfl
               | (with_reducible show Calls _ _ _ _ _
                  first
                    | with_reducible refine Calls.mono (K1.out _ hv) ?_
                    | with_reducible refine Calls.mono (K2.out _ hv) ?_
                  rintro e w' ⟨rfl, hb⟩
                  exact ⟨rfl, hv.trans (hb.mono hv.size)⟩)
               | (have d0 := (hv.cell (World.block_lt_of_cell? _ _ x0)).trans x0
                  have d1 := (hv.cell (World.block_lt_of_cell? _ _ x1)).trans x1
                  go_simp
                  with_reducible rfl))
             clear hK K))
      refine wpQuiet_nil ?_
      intro wf hk6
      simp only [List.drop_succ_cons, List.drop_zero]
      have DF := Lib.hid (D6.out.mono hk6)
      have BF := Lib.hid (B6.out.trans (hk6.mono HBW6.out))
      have HBF := Lib.hid (Nat.le_trans HBW6.out hk6.size)
      have hz3 : (⟨⟨one1 (a, d)⟩⟩ : ByteArray).size ≤ 1100 := by rw [mk_size]; exact one1_length _ HZ.out
      clear hk6 D6 B6 K1 K2 q1 q2 q3 hz1 hz2 x0 x1
      go_wp2_with fail
      rw [HT.out]
      refine (str_any DF.out _ (by omega)).mono ?_
      rintro e w8 ⟨rfl, G8, h8, t8⟩
      have D8 := Lib.hid (show BldAt w8 b G8 (escL n.data.toList ++ tailL (s.take (j + 1))) by
        rw [HX.out]
        simpa using h8)
      have B8 := Lib.hid (t8.bel DF.out.own BF.out HBF.out)
      clear h8 t8 hlen
      go_wp2
      go_roundw
      case rel => exact ⟨j + 1, G8, HLT.out, by go_num, D8.out, B8.out⟩
      case measure => have := HLT.out; simp [intOf]; omega
    · have hj1 : ¬ (j : Int) < m := by omega
      have EJ : escL n.data.toList ++ tailL (s.take j) = textL n s := by
        rw [List.take_of_length_le (by rw [← HM.out]; exact hge)]; rfl
      rw [EJ] at HD
      have KS := Lib.hid (string_any HD.out)
      have BE := Lib.hid (B1.out.trans (BB.out.mono HBW.out))
      clear hge EJ hlen
      go_wp2_with fail
      refine KS.out.mono ?_
      rintro e w9 ⟨rfl, b9⟩
      have BF := Lib.hid (BE.out.trans (b9.mono HBW.out))
      clear b9
      go_wp2
      go_ret
      exact ⟨.inl ⟨n, s, IK.out, rfl⟩, BF.out⟩
set_option maxHeartbeats 4000000 in
set_option maxRecDepth 20000 in
theorem rText_any (w : World) (key : ByteArray) (hk : key.size ≤ 140737488355328) : Calls Try.prog 18 #[.string key] w (TextAns w key) := by
  go_enter Try.func18, Try.ntmps18
  go_wp2_with fail
  refine (rSplit_any w key hk).mono ?_
  rintro e w1 (⟨n, s, v, G, ik, rfl, row, hG, b1⟩ | ⟨hno, rfl, b1⟩)
  rotate_left
  · have B1 := Lib.hid b1
    have HNO := Lib.hid hno
    clear hno b1
    go_wp2
    go_ret
    exact ⟨.inr ⟨HNO.out, rfl⟩, B1.out⟩
  have B1 := Lib.hid b1
  have IK := Lib.hid ik
  have HSZ := Lib.hid ik.sizes
  have hsl := ik.sizes.2.1
  have hns := ik.sizes.1
  obtain ⟨m, hm⟩ : ∃ m, m = s.length := ⟨_, rfl⟩
  rw [← hm] at row hsl
  have HM := Lib.hid hm
  obtain ⟨av, cp, rfl, _⟩ := row.form
  have ROW := Lib.hid row
  clear ik row hG b1 hm
  go_wp2_with fail
  refine (rEscape_any n w1 (by omega)).mono ?_
  rintro e w2 ⟨rfl, b2⟩
  have R2 := Lib.hid (ROW.out.same (Same.own b2 ROW.out.own))
  have B2 := Lib.hid (B1.out.trans (b2.mono B1.out.size))
  have hle := escL_length n.data.toList
  rw [list_size] at hle
  have HES := Lib.hid (show (escL n.data.toList).length ≤ 600 by omega)
  clear b2 hle hns
  go_wp2_with fail
  obtain ⟨b, hb⟩ : ∃ b, b = w.heap.size := ⟨_, rfl⟩
  have HB := Lib.hid hb
  have HBG := Lib.hid (show ∀ g ∈ G, g < w2.heap.size from fun g hg => (R2.out.own.mem g hg).2)
  clear hb
  go_loopw [6, 7] (fun t x wr => ∃ (j : Nat) (S : ByteArray), j ≤ m ∧ x = .int .i64 j ∧ t = .string S ∧ S = ⟨⟨escL n.data.toList ++ tailL (s.take j)⟩⟩ ∧ Below w2.heap.size w2 wr) (fun _ x _ => m - (intOf x).toNat)
  case atStart => exact ⟨0, _, Nat.zero_le _, rfl, rfl, by simp [tailL], Below.refl _ _⟩
  case round =>
    obtain ⟨j, S, hj, rfl, rfl, hS, bb⟩ := hrel
    have BB := Lib.hid bb
    have hlen : S.size ≤ 600 + 16 * 1100 := by
      have h1 := tailL_length (s.take j) (fun x hx => HSZ.out.2.2 x (List.mem_of_mem_take hx))
      have h2 : (s.take j).length ≤ 16 := by rw [List.length_take]; have := HM.out; omega
      have h3 := Nat.mul_le_mul_right 1100 h2
      rw [hS, mk_size, List.length_append]
      have := HES.out
      omega
    have HS := Lib.hid hS
    clear bb hS
    rcases Nat.lt_or_ge j m with hlt | hge
    · have hj1 : (j : Int) < m := by omega
      obtain ⟨x, hx⟩ : ∃ x, s[j]? = some x := ⟨_, List.getElem?_eq_getElem (by rw [← HM.out]; exact hlt)⟩
      have RR := R2.out.same (w' := wr) fun g hg => BB.out.block g (HBG.out g hg)
      obtain ⟨g, off, cap', e1, _, _, _, hc⟩ := RR.there (by omega)
      cases e1
      have c0 := (hc _ _ (flat_get s j x hx).1).1
      have c1 := (hc _ _ (flat_get s j x hx).2).1
      rw [← Nat.add_assoc] at c1
      obtain ⟨a, d⟩ := x
      have hsz : a.size < 256 ∧ d.size < 256 := HSZ.out.2.2 (a, d) (List.mem_of_getElem? hx)
      have HX := Lib.hid (tailL_take s j (a, d) hx)
      have HLT := Lib.hid hlt
      have HZ := Lib.hid hsz
      clear hc hx hlt RR hsz
      have K1 := Lib.hid (fun (v : World) (_ : Below wr.heap.size wr v) => rEscape_any a v (by have := HZ.out; omega))
      have K2 := Lib.hid (fun (v : World) (_ : Below wr.heap.size wr v) => rEscape_any d v (by have := HZ.out; omega))
      have hz1 : (⟨⟨escL a.data.toList⟩⟩ : ByteArray).size ≤ 600 := by have := escL_length a.data.toList; rw [list_size] at this; rw [mk_size]; have := HZ.out; omega
      have hz2 : (⟨⟨escL d.data.toList⟩⟩ : ByteArray).size ≤ 600 := by have := escL_length d.data.toList; rw [list_size] at this; rw [mk_size]; have := HZ.out; omega
      obtain ⟨T1, hT1⟩ : ∃ T : ByteArray, T = ⟨⟨escL a.data.toList⟩⟩ := ⟨_, rfl⟩
      obtain ⟨T2, hT2⟩ : ∃ T : ByteArray, T = ⟨⟨escL d.data.toList⟩⟩ := ⟨_, rfl⟩
      rw [← hT1] at K1 hz1
      rw [← hT2] at K2 hz2
      have HT := Lib.hid (show (S ++ ⟨#[44]⟩ ++ T1 ++ ⟨#[61]⟩ ++ T2 : ByteArray) = ⟨⟨escL n.data.toList ++ tailL (s.take (j + 1))⟩⟩ by
        rw [HS.out, HX.out, hT1, hT2, show (⟨#[44]⟩ : ByteArray) = ⟨⟨[44]⟩⟩ from rfl, show (⟨#[61]⟩ : ByteArray) = ⟨⟨[61]⟩⟩ from rfl, mk_app, mk_app, mk_app, mk_app]
        simp [one1])
      have q0 : ¬ 9223372036854775807 < S.size + 1 := by omega
      have q1 : ¬ 9223372036854775807 < S.size + 1 + T1.size := by omega
      have q2 : ¬ 9223372036854775807 < S.size + 1 + T1.size + 1 := by omega
      have q3 : ¬ 9223372036854775807 < S.size + 1 + T1.size + 1 + T2.size := by omega
      clear hT1 hT2
      go_wp2_with fail
      refine wp_region_quiet (C := fun w' => Below wr.heap.size wr w') (by kernel_rfl) (by kernel_rfl) ((Below.refl _ _).drew) ?_
      repeat (
        with_reducible refine wpQuiet_step (fun K hK => ?_)
        go_simp
        first
          | (with_reducible refine hK _ ?_; clear hK K)
          | (apply Exists.intro
             refine ⟨fun v hv => ?_, hK _ ?_⟩
             (first
               | with_reducible rfl
               | (with_reducible show Calls _ _ _ _ _
                  first
                    | with_reducible refine Calls.mono (K1.out _ hv) ?_
                    | with_reducible refine Calls.mono (K2.out _ hv) ?_
                  rintro e w' ⟨rfl, hb⟩
                  exact ⟨rfl, hv.trans (hb.mono hv.size)⟩)
               | (have d0 := (hv.cell (World.block_lt_of_cell? _ _ c0)).trans c0
                  have d1 := (hv.cell (World.block_lt_of_cell? _ _ c1)).trans c1
                  go_simp
                  with_reducible rfl))
             clear hK K))
      refine wpQuiet_nil ?_
      intro wf hk
      have BF := Lib.hid (BB.out.trans (hk.mono BB.out.size))
      clear hk K1 K2 q0 q1 q2 q3 hz1 hz2 c0 c1
      go_wp2
      go_roundw
      case rel => exact ⟨j + 1, _, HLT.out, by go_num, rfl, HT.out, BF.out⟩
      case measure => have := HLT.out; simp [intOf]; omega
    · have hj1 : ¬ (j : Int) < m := by omega
      have EJ : S = ⟨⟨textL n s⟩⟩ := by
        rw [HS.out, List.take_of_length_le (by rw [← HM.out]; exact hge)]; rfl
      have HE := Lib.hid EJ
      have BE := Lib.hid (B2.out.trans (BB.out.mono B2.out.size))
      clear hge EJ hlen
      go_wp2
      go_ret
      exact ⟨.inl ⟨n, s, IK.out, by rw [← HE.out]; rfl⟩, BE.out⟩
end Go.Proofs.Ytlmnniajindlgaa.HLab
