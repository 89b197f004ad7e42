/- Contracts of wide.Read, Put, Get, and of the document's Neg; walked by hand. -/
import Derived.Test.YtfbmdlheajclcaaWideText
import Derived.Laws.OwnMore
import Derived.Deep.LoopGhost
import Derived.Lib.Strings
namespace Go.Proofs.Ytfbmdlheajclcaa.HWide
open Go.RowKit Go.Proofs.Ytfbmdlheajclcaa.Print Go.Proofs.Ytfbmdlheajclcaa.PrintT Go.Proofs.YtfbmdlheajclcaaW.PrintWords Go.Proofs.YtfbmdlheajclcaaW.PrintLast Go.Proofs.YtfbmdlheajclcaaW.PrintMore

theorem Text_any (a b : Int) (w : World) (hr : Rng a b) :
    Calls Try.prog 21 #[.agg #[.int .i64 a, .int .u64 b]] w fun e w' => e = .returned (.string (strOfNums (decZ (val a b)))) ∧ Below w.heap.size w w' :=
  wide_Sum_Text.calls 600 a b _ w (text_ev 600 a b hr (by omega))

/-- What Read takes off a text, from place k on, with what it has. -/
def parse : List Int → Nat → Int × Int → Int × Int
  | [], _, a => a
  | c :: r, k, a => if k = 0 ∧ c = 45 then parse r (k + 1) a else if c < 48 ∨ c > 57 ∨ k = 40 then a else parse r (k + 1) (nrm (10 * val a.1 a.2 + (c - 48)))

def two (w : World) (b : Nat) (x : Int × Int) : Prop := w.heap[b]? = some (.cells #[.int .i64 x.1, .int .u64 x.2] 24 (0, 0))

theorem two.c {w : World} {b : Nat} {x : Int × Int} (h : two w b x) : w.cell? ⟨b, 0, none⟩ = some (.int .i64 x.1) ∧ w.cell? ⟨b, 1, none⟩ = some (.int .u64 x.2) ∧ w.frozen? ⟨b, 0, none⟩ = false ∧ w.frozen? ⟨b, 1, none⟩ = false := by
  unfold two at h
  simp [World.cell?, World.frozen?, h]
theorem two.mono {w w' : World} {b : Nat} {x : Int × Int} (h : two w b x) (hb : Below w.heap.size w w') : two w' b x := by
  unfold two at *
  have hl : b < w.heap.size := by
    rcases Nat.lt_or_ge b w.heap.size with h' | h'
    · exact h'
    · simp [Array.getElem?_eq_none h'] at h
  rw [hb.block b hl]; exact h
theorem blk_le {w : World} {b : Nat} {x : Int × Int} (h : two w b x) : b ≤ w.heap.size := by
  unfold two at h
  rcases Nat.lt_or_ge b w.heap.size with h' | h'
  · omega
  · simp [Array.getElem?_eq_none h'] at h
theorem two.set {w : World} {b : Nat} {x : Int × Int} (h : two w b x) (y : Int × Int) : two ((w.setCell ⟨b, 0, none⟩ (.int .i64 y.1)).setCell ⟨b, 1, none⟩ (.int .u64 y.2)) b y := by
  unfold two at *
  have e1 : (w.setCell ⟨b, 0, none⟩ (.int .i64 y.1)).heap[b]? = some (.cells #[.int .i64 y.1, .int .u64 x.2] 24 (0, 0)) := by
    simp only [World.setCell, Array.getElem?_modify, if_true, h]
    rfl
  simp only [World.setCell, Array.getElem?_modify, if_true] at e1 ⊢
  rw [e1]
  rfl

theorem two.other {w : World} {b c i : Nat} {x : Int × Int} {v : Value} (h : two w b x) (hn : c ≠ b) : two (w.setCell ⟨c, i, none⟩ v) b x := by
  unfold two at *
  simp only [World.setCell, Array.getElem?_modify, if_neg hn, h]

/-- What Read comes to before its sign. -/
def absR (s : ByteArray) : Int × Int := parse (bytesOf s) 0 (0, 0)
def RdRel (s : ByteArray) (b : Nat) (w0 : World) (i : Value) (wr : World) : Prop := ∃ (k : Nat) (a : Int × Int), k ≤ s.size ∧ i = .int .i64 k ∧ Rng a.1 a.2 ∧ parse ((bytesOf s).drop k) k a = absR s ∧ two wr b a ∧ Below b w0 wr

theorem nrm_rng (v : Int) : Rng (nrm v).1 (nrm v).2 := by unfold nrm Rng wrap64 B64; simp only; omega

theorem drop_byte (s : ByteArray) (k : Nat) (h : k < s.size) : (bytesOf s).drop k = (s[k].toNat : Int) :: (bytesOf s).drop (k + 1) := by
  have h' : k < (bytesOf s).length := by rw [bytesOf_length]; exact h
  rw [List.drop_eq_getElem_cons h']
  congr 1
  simp [bytesOf]
  rfl
theorem parse_sign (r : List Int) (k : Nat) (c : Int) (a : Int × Int) (h : k = 0 ∧ c = 45) : parse (c :: r) k a = parse r (k + 1) a := by
  rw [parse, if_pos h]
theorem parse_stop (r : List Int) (k : Nat) (c : Int) (a : Int × Int) (h : ¬ (k = 0 ∧ c = 45)) (h2 : c < 48 ∨ 57 < c ∨ k = 40) : parse (c :: r) k a = a := by
  rw [parse, if_neg h, if_pos h2]
theorem parse_digit (r : List Int) (k : Nat) (c : Int) (a : Int × Int) (h : ¬ (k = 0 ∧ c = 45)) (h2 : ¬ (c < 48 ∨ 57 < c ∨ k = 40)) : parse (c :: r) k a = parse r (k + 1) (nrm (10 * val a.1 a.2 + (c - 48))) := by
  rw [parse, if_neg h, if_neg h2]

/-- Does it begin with a sign? -/
def isNeg (s : ByteArray) : Bool := if h : 0 < s.size then (s[0].toNat : Int) == 45 else false
theorem full_facts (s : ByteArray) (h : 0 < s.size) : (!s.toList.isEmpty) = true ∧ ¬ s.toList = [] := by
  rw [Lib.toList_data]
  have := data_length s
  cases hl : s.data.toList with
  | nil => rw [hl] at this; simp at this; omega
  | cons a l => exact ⟨rfl, by simp⟩
theorem empty_facts (s : ByteArray) (h : ¬ 0 < s.size) : s.toList = [] := by
  rw [Lib.toList_data]
  have := data_length s
  exact List.length_eq_zero_iff.1 (by omega)
theorem ne_empty (s x : ByteArray) (h1 : s.toList = []) (hok : ¬ x = s) : (!x.toList.isEmpty) = true := by
  rw [Lib.toList_data] at h1 ⊢
  cases hl : x.data.toList with
  | cons a l => rfl
  | nil =>
    refine absurd ?_ hok
    have h2 : x.data = s.data := by rw [← Array.toList_inj, hl, h1]
    cases x; cases s; simp only at h2; rw [h2]
theorem ne_list (s x : ByteArray) (hok : ¬ x = s) : (!x.toList == s.toList) = true := by
  simp only [Bool.not_eq_true', beq_eq_false_iff_ne, ne_eq]
  intro h
  rw [Lib.toList_data, Lib.toList_data] at h
  refine hok ?_
  have h2 : x.data = s.data := by rw [← Array.toList_inj, h]
  cases x; cases s; simp only at h2; rw [h2]
theorem neg_facts (s : ByteArray) (h : isNeg s = true) : ∃ h0 : 0 < s.size, (((s[0]'h0).toNat : Int) == 45) = true := by
  unfold isNeg at h
  by_cases h0 : 0 < s.size
  · rw [dif_pos h0] at h
    exact ⟨h0, h⟩
  · rw [dif_neg h0] at h; cases h
theorem pos_facts (s : ByteArray) (h : ¬ isNeg s = true) (h0 : 0 < s.size) : (((s[0]'h0).toNat : Int) == 45) = false := by
  unfold isNeg at h
  rw [dif_pos h0] at h
  simpa using h
def finR (s : ByteArray) : Int × Int := if isNeg s = true then nrm (-val (absR s).1 (absR s).2) else absR s
def rdOk (s : ByteArray) : Bool := decide (strOfNums (decZ (val (finR s).1 (finR s).2)) = s)

theorem finR_rng (s : ByteArray) (h : Rng (absR s).1 (absR s).2) : Rng (finR s).1 (finR s).2 := by
  unfold finR
  by_cases h' : isNeg s = true
  · rw [if_pos h']; exact nrm_rng _
  · rw [if_neg h']; exact h
/-- What Read answers. -/
def readR (s : ByteArray) : (Int × Int) × Bool := if rdOk s = true then (finR s, true) else ((0, 0), false)
theorem readR_yes (s : ByteArray) (h : strOfNums (decZ (val (finR s).1 (finR s).2)) = s) : readR s = (finR s, true) := by
  unfold readR rdOk; rw [if_pos (by simpa using h)]
theorem readR_no (s : ByteArray) (h : ¬ strOfNums (decZ (val (finR s).1 (finR s).2)) = s) : readR s = ((0, 0), false) := by
  unfold readR rdOk; rw [if_neg (by simpa using h)]

set_option maxHeartbeats 1000000 in
theorem Read_any (s : ByteArray) (w : World) (hs : s.size ≤ 140737488355328) :
    Calls Try.prog 27 #[.string s] w fun e w' => e = .returned (.tuple #[.agg #[.int .i64 (readR s).1.1, .int .u64 (readR s).1.2], .bool (readR s).2]) ∧ Below w.heap.size w w' := by
  go_enter Try.func27, Try.ntmps27
  go_wp2
  go_step3
  go_wp2
  go_step3
  go_upto_block 0 with (fail)
  obtain ⟨W0, q0⟩ : ∃ W, W = (w.alloc (.cells #[.int .i64 0, .int .u64 0] 24)).alloc (.cells #[.int .i64 0, .int .u64 0] 24) := ⟨_, rfl⟩
  rw [← q0]
  obtain ⟨b, hb⟩ : ∃ b, b = w.heap.size + 1 := ⟨_, rfl⟩
  rw [← hb]
  have S0 := Lib.hid (show two W0 b (0, 0) by
    rw [q0, hb]
    show ((w.heap.push _).push _)[w.heap.size + 1]? = _
    rw [show w.heap.size + 1 = (w.heap.push (Obj.cells #[.int .i64 0, .int .u64 0] 24)).size by simp, Array.getElem?_push_size])
  have HQ := Lib.hid q0
  have HB := Lib.hid hb
  clear q0 hb
  go_cut [] (fun wc => two wc b (absR s) ∧ Rng (absR s).1 (absR s).2 ∧ Below b W0 wc)
  case first =>
    go_wp2
    go_loopw [9] (fun i wr => RdRel s b W0 i wr) (fun i _ => s.size - (intOf i).toNat)
    case atStart => exact ⟨0, (0, 0), Nat.zero_le _, rfl, by decide, by rfl, S0.out, Below.refl _ _⟩
    case round =>
      obtain ⟨k, a, hk, rfl, hr, hp, ht, hbl⟩ := hrel
      have HR := Lib.hid hr
      have HP := Lib.hid hp
      have HT := Lib.hid ht
      have HBL := Lib.hid hbl
      clear hr hp hbl ht
      obtain ⟨c0, c1, f0, f1⟩ := HT.out.c
      rcases Nat.lt_or_ge k s.size with hlt | hge
      · have HD := Lib.hid (drop_byte s k hlt)
        have hc0 : 0 ≤ (s[k].toNat : Int) := by omega
        have hc1 : (s[k].toNat : Int) ≤ 255 := by have := s[k].toNat_lt; omega
        by_cases h1 : k = 0 ∧ (s[k].toNat : Int) = 45
        · have P' := Lib.hid (parse_sign ((bytesOf s).drop (k + 1)) k _ a h1)
          obtain ⟨rfl, h45⟩ := h1
          have t1 : ((s[0].toNat : Int) == 45) = true := by rw [beq_iff_eq]; exact h45
          clear h45
          go_wp2
          go_roundw
          case rel => exact ⟨1, a, by omega, by go_num, HR.out, by rw [← HP.out, HD.out, P'.out], HT.out, HBL.out⟩
          case measure => simp [intOf]; omega
        · by_cases h2 : (s[k].toNat : Int) < 48 ∨ 57 < (s[k].toNat : Int) ∨ k = 40
          · have P' := Lib.hid (parse_stop ((bytesOf s).drop (k + 1)) k _ a h1 h2)
            have E := Lib.hid (show absR s = a by rw [← HP.out, HD.out, P'.out])
            obtain ⟨c, hc⟩ : ∃ c : Int, c = (s[k].toNat : Int) := ⟨_, rfl⟩
            rw [← hc] at h1 h2 hc0 hc1
            have T2 : (decide (c < 48) = true) ∨ (decide (c < 48) = false ∧ decide (57 < c) = true) ∨ (decide (c < 48) = false ∧ decide (57 < c) = false ∧ ((k : Int) == 40) = true) := by
              simp only [decide_eq_true_eq, decide_eq_false_iff_not, beq_iff_eq]; omega
            have T1 : (((k : Int) == 0) = true ∧ (c == 45) = false) ∨ ((k : Int) == 0) = false := by
              simp only [beq_iff_eq, beq_eq_false_iff_ne]; omega
            rw [hc] at T1 T2 hc0 hc1
            clear h1 h2 hc
            rcases T1 with ⟨ta, tb⟩ | ta
            all_goals
              rcases T2 with td | ⟨td, te⟩ | ⟨td, te, tf⟩
              all_goals
                go_wp2
                go_meet
                case rel => exact ⟨by rw [E.out]; exact HT.out, by rw [E.out]; exact HR.out, HBL.out⟩
          · have P' := Lib.hid (parse_digit ((bytesOf s).drop (k + 1)) k _ a h1 h2)
            obtain ⟨c, hc⟩ : ∃ c : Int, c = (s[k].toNat : Int) := ⟨_, rfl⟩
            rw [← hc] at h1 h2 hc0 hc1
            have T2 : decide (c < 48) = false ∧ decide (57 < c) = false ∧ ((k : Int) == 40) = false := by
              simp only [decide_eq_false_iff_not, beq_eq_false_iff_ne]; omega
            have T1 : (((k : Int) == 0) = true ∧ (c == 45) = false) ∨ ((k : Int) == 0) = false := by
              simp only [beq_iff_eq, beq_eq_false_iff_ne]; omega
            have hb48 : 48 ≤ c := by omega
            rw [hc] at T1 T2 hc0 hc1 hb48
            clear h1 h2 hc
            obtain ⟨td, te, tf⟩ := T2
            rcases T1 with ⟨ta, tb⟩ | ta
            all_goals
              go_wp2_with fail
              refine (times_any a.1 a.2 _ _ HR.out.2.2.1 HR.out.2.2.2 (by omega) (by omega)).mono ?_
              rintro e w2 ⟨rfl, hb2⟩
              have HB2 := Lib.hid hb2
              have T2 := Lib.hid (HT.out.mono hb2)
              clear hb2 c0 c1 f0 f1
              obtain ⟨c0, c1, f0, f1⟩ := T2.out.c
              go_wp2
              go_roundw
              case rel => exact ⟨k + 1, nrm (10 * val a.1 a.2 + ((s[k].toNat : Int) - 48)), by omega, by go_num, nrm_rng _, by rw [← HP.out, HD.out, P'.out], T2.out.set _,
                ((HBL.out.trans (HB2.out.mono (blk_le HT.out))).setCell (Nat.le_refl _) _).setCell (Nat.le_refl _) _⟩
              case measure => simp [intOf]; omega
      · have E := Lib.hid (show absR s = a by rw [← HP.out, List.drop_of_length_le (by rw [bytesOf_length]; exact hge)]; rfl)
        go_wp2
        go_meet
        case rel => exact ⟨by rw [E.out]; exact HT.out, by rw [E.out]; exact HR.out, HBL.out⟩
  case rest =>
    obtain ⟨ht, hr, hbl⟩ := hcut
    have hres : two wc w.heap.size (0, 0) := by
      unfold two
      rw [hbl.block _ (by rw [HB.out]; omega), HQ.out]
      show ((w.heap.push _).push _)[w.heap.size]? = _
      rw [Array.getElem?_push_lt (by simp), Array.getElem_push_eq]
    have HT := Lib.hid ht
    have HR := Lib.hid hr
    have HBL := Lib.hid hbl
    have HRS := Lib.hid hres
    have HLE := Lib.hid (show w.heap.size ≤ b by rw [HB.out]; omega)
    have HLW := Lib.hid (blk_le hres)
    have HQ2 := Lib.hid (show Below w.heap.size w W0 by rw [HQ.out]; exact ((Below.refl _ _).alloc (Nat.le_refl _) _).alloc (by simp) _)
    clear ht hr hbl hres
    obtain ⟨c0, c1, f0, f1⟩ := HT.out.c
    obtain ⟨d0, d1, g0, g1⟩ := HRS.out.c
    by_cases hneg : isNeg s = true
    case' pos =>
      obtain ⟨h2, h3⟩ := neg_facts s hneg
      obtain ⟨h1, h4⟩ := full_facts s h2
      have HF := Lib.hid (show finR s = nrm (-val (absR s).1 (absR s).2) by unfold finR; rw [if_pos hneg])
      clear hneg
      go_wp2_with fail
      refine (Neg_any _ _ _ HR.out.2.2.1 HR.out.2.2.2).mono ?_
      rintro e w2 ⟨rfl, hb2⟩
      rw [← HF.out]
      have HB2 := Lib.hid hb2
      have T2 := Lib.hid (HT.out.mono hb2)
      have RS2 := Lib.hid (HRS.out.mono hb2)
      clear hb2 c0 c1 f0 f1 d0 d1 g0 g1
      obtain ⟨c0, c1, f0, f1⟩ := T2.out.c
      obtain ⟨d0, d1, g0, g1⟩ := RS2.out.c
      have HFR := Lib.hid (finR_rng s HR.out)
      have TT := Lib.hid (T2.out.set (finR s))
      have RT := Lib.hid (show two ((w2.setCell ⟨b, 0, none⟩ (.int .i64 (finR s).1)).setCell ⟨b, 1, none⟩ (.int .u64 (finR s).2)) w.heap.size (0, 0) from (RS2.out.other (by rw [HB.out]; omega)).other (by rw [HB.out]; omega))
      have BT := Lib.hid (show Below w.heap.size w ((w2.setCell ⟨b, 0, none⟩ (.int .i64 (finR s).1)).setCell ⟨b, 1, none⟩ (.int .u64 (finR s).2)) from ((HQ2.out.trans ((HBL.out.mono HLE.out).trans (HB2.out.mono HLW.out))).setCell HLE.out _).setCell HLE.out _)
      go_wp2_with fail
    case' neg =>
      have HF := Lib.hid (show finR s = absR s by unfold finR; rw [if_neg hneg])
      have TT := Lib.hid (show two wc b (finR s) by rw [HF.out]; exact HT.out)
      have RT := HRS
      have BT := Lib.hid (HQ2.out.trans (HBL.out.mono HLE.out))
      have HFR := Lib.hid (finR_rng s HR.out)
      by_cases h2 : 0 < s.size
      case' pos =>
        obtain ⟨h1, h4⟩ := full_facts s h2
        have h3 := pos_facts s hneg h2
      case' neg =>
        have h1 := empty_facts s h2
        have h0 : s.size = 0 := by omega
      all_goals
        clear hneg
        rw [← HF.out] at c0 c1
        go_wp2_with fail
    all_goals
      refine (Text_any _ _ _ HFR.out).mono ?_
      rintro e w3 ⟨rfl, hb3⟩
      obtain ⟨x, hx⟩ : ∃ x, x = strOfNums (decZ (val (finR s).1 (finR s).2)) := ⟨_, rfl⟩
      rw [← hx]
      have T3 := Lib.hid (TT.out.mono hb3)
      have R3 := Lib.hid (RT.out.mono hb3)
      have B3 := Lib.hid (BT.out.trans (hb3.mono (blk_le RT.out)))
      have HX := Lib.hid hx
      clear hx hb3 c0 c1 f0 f1 d0 d1 g0 g1
      obtain ⟨c0, c1, f0, f1⟩ := T3.out.c
      obtain ⟨d0, d1, g0, g1⟩ := R3.out.c
      by_cases hok : x = s
      · have HA := Lib.hid (readR_yes s (by rw [← HX.out]; exact hok))
        have R4 := Lib.hid (R3.out.set (finR s))
        go_wp2
        clear c0 c1 f0 f1 d0 d1 g0 g1
        obtain ⟨d0, d1, g0, g1⟩ := R4.out.c
        show bodyPost Try.prog Try.f27 (fun e w' => e = .returned (.tuple #[.agg #[.int .i64 (readR s).1.1, .int .u64 (readR s).1.2], .bool (readR s).2]) ∧ Below w.heap.size w w') Exit.ret _ _
        refine bodyPost_ret (v := .tuple #[.agg #[.int .i64 (finR s).1, .int .u64 (finR s).2], .bool true]) ?_ rfl ?_
        · simp [results, Try.results27, go_sem, d0, d1]
        · exact ⟨by rw [HA.out], (B3.out.setCell (p := ⟨w.heap.size, 0, none⟩) (Nat.le_refl _) _).setCell (p := ⟨w.heap.size, 1, none⟩) (Nat.le_refl _) _⟩
      · have HA := Lib.hid (readR_no s (by rw [← HX.out]; exact hok))
        have R4 := Lib.hid (R3.out.set (0, 0))
        first
          | have hne := ne_empty s x h1 hok
          | have hne := ne_list s x hok
        go_wp2
        clear c0 c1 f0 f1 d0 d1 g0 g1
        obtain ⟨d0, d1, g0, g1⟩ := R4.out.c
        show bodyPost Try.prog Try.f27 (fun e w' => e = .returned (.tuple #[.agg #[.int .i64 (readR s).1.1, .int .u64 (readR s).1.2], .bool (readR s).2]) ∧ Below w.heap.size w w') Exit.ret _ _
        refine bodyPost_ret (v := .tuple #[.agg #[.int .i64 0, .int .u64 0], .bool false]) ?_ rfl ?_
        · simp [results, Try.results27, go_sem, d0, d1]
        · exact ⟨by rw [HA.out], (B3.out.setCell (p := ⟨w.heap.size, 0, none⟩) (Nat.le_refl _) _).setCell (p := ⟨w.heap.size, 1, none⟩) (Nat.le_refl _) _⟩

end Go.Proofs.Ytfbmdlheajclcaa.HWide
