/- The walk of SipBytes. -/
import Derived.Test.YtjlhfjcjmeonmaaDoorSipSame0
import Derived.Test.YtjlhfjcjmeonmaaDoorSipAt
import Derived.Test.YtjlhfjcjmeonmaaDoorQTail
import Derived.Deep.QuietTactic
import Derived.Laws.BytesArg
import Derived.BigQuiet
import Derived.Lib.Strings
import Derived.Laws.BitsAllLaws
namespace Go.Proofs.YtjlhfjcjmeonmaaDoor.HSip
set_option linter.unusedVariables false
open Go.RowKit Go.Proofs.YtjlhfjcjmeonmaaDoor.Print Go.Proofs.YtjlhfjcjmeonmaaDoorW.PrintWords Go.Proofs.YtjlhfjcjmeonmaaDoorW.PrintLast Go.Proofs.YtjlhfjcjmeonmaaDoorW.PrintMore

/-- What is known of the text, its bytes, and the other text. -/
structure Chg (s : ByteArray) (g y : Nat) (i : Nat) (v : Int) (t : ByteArray) : Prop where
  pos : 0 < s.size
  le : s.size ≤ 7
  ix : (g : Int).tmod s.size = (i : Int)
  lt : i < s.size
  is : t = strOfNums ((bytesOf s).set i v)
  val : v = Go.bits .xor .u8 ((bytesOf s).getD i 0) (y : Int)
  same : (s.toList == t.toList) = ((y : Int) == 0)
  sz : t.size ≤ 7

theorem nonempty_is (s : ByteArray) (h : 0 < s.size) : s.toList.isEmpty = false := by
  rw [Lib.toList_data s]
  have := data_length s
  cases hl : s.data.toList with
  | nil => rw [hl] at this; simp at this; omega
  | cons x r => rfl
theorem bytes_free (w : World) (s : ByteArray) (i : Nat) (hi : i < s.size) : (Lib.bytesWorld w 5 s).frozen? ⟨w.heap.size, i, none⟩ = false := by
  have hl : i < (Lib.bytesCells w 5 s).size := by
    have : s.data.size = s.size := rfl
    simp [Lib.bytesCells]; omega
  simp [World.frozen?, Lib.bytesWorld_at_new w 5 s]
  omega
theorem BytesIn.drewN {w : World} {q : Nat} {s : ByteArray} (h : BytesIn w q s) (n : Nat) : BytesIn (w.drewN n) q s := h
theorem cv_set (W : World) (q c i : Nat) (v : Int) (s t : ByteArray) (h : BytesIn W q s) (hi : i < s.size) (ht : t = strOfNums ((bytesOf s).set i v)) :
    (convert 30 9 (.slice (some ⟨q, 0, none⟩) s.size c)).run Tryd.prog (W.setCell ⟨q, i, none⟩ (.int .u8 v)) = .ok (.string t) (W.setCell ⟨q, i, none⟩ (.int .u8 v)) := by
  have := run_convert_bytes_arg (P := Tryd.prog) (W.setCell ⟨q, i, none⟩ (.int .u8 v)) 30 5 Tryd.underlying30 Tryd.underlying5 q 0 s.size c ((bytesOf s).set i v) (by rw [List.length_set, bytesOf_length]) (fun j hj => by
    have hc0 := h.2 j hj
    have hci := h.2 i hi
    rw [Nat.zero_add]
    unfold World.cell? at hc0 hci ⊢
    simp only [World.setCell, Array.getElem?_modify, if_true] at hc0 hci ⊢
    cases hw : W.heap[q]? with
    | none => rw [hw] at hc0; cases hc0
    | some o =>
      rw [hw] at hc0 hci
      cases o with
      | cells cs t fz =>
        simp only [Option.map_some, Option.bind_some] at hc0 hci ⊢
        simp only [Option.isSome_none, Bool.false_eq_true, if_false] at hc0 hci ⊢
        rw [Array.getElem?_setIfInBounds]
        have hlen : (bytesOf s).length = s.size := bytesOf_length s
        by_cases hij : i = j
        · subst hij
          have hsz : i < cs.size := by
            rcases Nat.lt_or_ge i cs.size with h' | h'
            · exact h'
            · rw [Array.getElem?_eq_none h'] at hc0; cases hc0
          rw [if_pos rfl, if_pos hsz, List.getD_eq_getElem?_getD, List.getElem?_set_self (by omega)]
          rfl
        · rw [if_neg hij, hc0, List.getD_eq_getElem?_getD, List.getD_eq_getElem?_getD, List.getElem?_set_ne hij]
      | _ => simp at hc0) 9 Tryd.underlying9
  rw [← ht] at this
  exact this
theorem chg_is (s : ByteArray) (g y : Nat) (hg : g < 256) (hy : y < 256) (h0 : 0 < s.size) (h7 : s.size ≤ 7) : ∃ i v t, Chg s g y i v t := by
  obtain ⟨i, hi⟩ : ∃ i, i = g % s.size := ⟨_, rfl⟩
  have hil : i < s.size := by rw [hi]; exact Nat.mod_lt _ h0
  have hlen : (bytesOf s).length = s.size := bytesOf_length s
  have hil2 : i < (bytesOf s).length := by omega
  have eg : (bytesOf s).getD i 0 = ((s.data.toList[i]'(by rw [data_length]; exact hil)).toNat : Int) := by
    rw [List.getD_eq_getElem?_getD, List.getElem?_eq_getElem hil2]
    simp [bytesOf]
  obtain ⟨c, hc, hc2⟩ : ∃ c : Nat, (bytesOf s).getD i 0 = (c : Int) ∧ c < 256 := ⟨_, eg, UInt8.toNat_lt _⟩
  have hbx : Go.bits .xor .u8 ((bytesOf s).getD i 0) (y : Int) = ((c ^^^ y : Nat) : Int) := by rw [hc, u8_xor_nat c y hc2 hy]
  have hx : c ^^^ y < 256 := Nat.xor_lt_two_pow (n := 8) hc2 hy
  refine ⟨i, Go.bits .xor .u8 ((bytesOf s).getD i 0) (y : Int), strOfNums ((bytesOf s).set i (Go.bits .xor .u8 ((bytesOf s).getD i 0) (y : Int))), h0, h7, ?_, hil, rfl, rfl, ?_, ?_⟩
  · rw [Int.tmod_eq_emod_of_nonneg (by omega), hi]; exact (Int.natCast_emod _ _).symm
  · rw [hbx, Bool.eq_iff_iff, beq_iff_eq, beq_iff_eq]
    rw [Lib.toList_data, Lib.toList_data]
    constructor
    · intro e
      have e2 : bytesOf s = (bytesOf s).set i ((c ^^^ y : Nat) : Int) := by
        have h1 : bytesOf (strOfNums ((bytesOf s).set i ((c ^^^ y : Nat) : Int))) = (bytesOf s).set i ((c ^^^ y : Nat) : Int) := by
          unfold bytesOf
          rw [strOfNums_data, List.map_map]
          conv => rhs; rw [← List.map_id ((s.data.toList.map fun b => (b.toNat : Int)).set i ((c ^^^ y : Nat) : Int))]
          refine List.map_congr_left fun z hz => ?_
          have hz2 : 0 ≤ z ∧ z ≤ 255 := by
            rcases List.mem_or_eq_of_mem_set hz with hz | hz
            · obtain ⟨b, _, rfl⟩ := List.mem_map.1 hz
              have := b.toNat_lt
              omega
            · omega
          simp only [Function.comp, id, UInt8.toNat_ofNat']
          omega
        exact (congrArg (List.map fun b : UInt8 => (b.toNat : Int)) e).trans h1
      have e3 : (bytesOf s).getD i 0 = ((c ^^^ y : Nat) : Int) := by
        rw [e2]
        simp [List.getD, List.getElem?_set_self hil2]
      rw [hc] at e3
      have e4 : c ^^^ y = c := by exact_mod_cast e3.symm
      have e5 : y = 0 := by
        have := congrArg (c ^^^ ·) e4
        simpa [← Nat.xor_assoc] using this
      rw [e5]; rfl
    · intro e
      have e5 : y = 0 := by exact_mod_cast e
      subst e5
      rw [Nat.xor_zero, ← hc]
      have : (bytesOf s).set i ((bytesOf s).getD i 0) = bytesOf s := by
        refine List.ext_getElem? fun j => ?_
        by_cases hj : i = j
        · subst hj; rw [List.getElem?_set_self hil2]; simp [List.getD, List.getElem?_eq_getElem hil2]
        · rw [List.getElem?_set_ne hj]
      rw [this, str_bytes]
  · rw [strOfNums_size, List.length_set, hlen]; exact h7

set_option maxHeartbeats 4000000 in
theorem SipBytes_any (a b g y : Nat) (s : ByteArray) (w : World) (hT : TabAt w) (ha : a < M64) (hb : b < M64) (hg : g < 256) (hy : y < 256) (hs : s.size ≤ 140737488355328) :
    Calls Tryd.prog 7 #[.int .u64 a, .int .u64 b, .string s, .int .u8 g, .int .u8 y] w fun e w' => e = .returned (.bool true) ∧ Below w.heap.size w w' := by
  have HT := Lib.hid hT
  clear hT
  rcases (show s.size = 0 ∨ (0 < s.size ∧ s.size ≤ 7) ∨ 7 < s.size by omega) with h0 | ⟨h0, h7⟩ | h7
  · have e0 : s = ⟨#[]⟩ := by
      obtain ⟨⟨l⟩⟩ := s
      cases l with
      | nil => rfl
      | cons x r => simp [ByteArray.size] at h0
    subst e0
    obtain ⟨i, v, t, hc⟩ := chg_is ⟨#[120]⟩ g y hg hy (by decide) (by decide)
    have hz : (⟨#[120]⟩ : ByteArray).size = 1 := rfl
    generalize hS : (⟨#[120]⟩ : ByteArray) = S at hc
    clear hz
    go_enter Tryd.func7, Tryd.ntmps7
    go_wp2_with fail
    refine (examples_any _ HT.out).mono ?_
    rintro e w1 ⟨rfl, hb1⟩
    have B1 := Lib.hid hb1
    clear hb1
    go_wp2_with fail
    rw [hS]
    clear hS
    have hb2 : Below w.heap.size w (Lib.bytesWorld w1 5 S) := bytes_below B1.out B1.out.size _ _
    have hcv := cv_to w1 S
    have hbi := BytesIn.new w1 S
    have hfz := bytes_free w1 S i hc.lt
    obtain ⟨W1, hW1⟩ : ∃ W1, W1 = Lib.bytesWorld w1 5 S := ⟨_, rfl⟩
    obtain ⟨c, hcc⟩ : ∃ c, c = grownCap w1 S.size 0 5 := ⟨_, rfl⟩
    obtain ⟨q, hq⟩ : ∃ q, q = w1.heap.size := ⟨_, rfl⟩
    rw [← hW1] at hb2 hcv hbi hfz
    rw [← hcc] at hcv
    rw [← hq] at hcv hbi hfz
    have hqw : w.heap.size ≤ q := by rw [hq]; exact B1.out.size
    clear hW1 hcc hq
    have HB2 := Lib.hid hb2
    have HBI := Lib.hid hbi
    have HC := Lib.hid hc
    obtain ⟨x, hx⟩ : ∃ x, x = (bytesOf S).getD i 0 := ⟨_, rfl⟩
    have hcell := hbi.2 i hc.lt
    rw [← hx] at hcell
    have hv := hc.val.symm
    rw [← hx] at hv
    have hix := hc.ix
    have hlt := hc.lt
    have hpos := hc.pos
    have hcv2 := cv_set W1 q c i v S t hbi hlt hc.is
    have fin : Below w.heap.size w (W1.setCell ⟨q, i, none⟩ (.int .u8 v)) := HB2.out.setCell (p := ⟨q, i, none⟩) hqw _
    have FIN := Lib.hid fin
    clear hb2 hbi hc hx fin
    rw [hcv]
    go_wp2_with fail
    refine (Sum_any a b S _ ha hb (by have := HC.out.le; omega)).mono ?_
    rintro e w2 ⟨rfl, hb⟩
    have F2 := Lib.hid (FIN.out.trans (hb.mono FIN.out.size))
    clear hb
    go_wp2_with fail
    refine (Sum_any a b t _ ha hb (by have := HC.out.sz; omega)).mono ?_
    rintro e w3 ⟨rfl, hb⟩
    have F3 := Lib.hid (F2.out.trans (hb.mono F2.out.size))
    clear hb
    have hsame := HC.out.same
    by_cases hy0 : y = 0
    · subst hy0
      have hst : S = t := by
        have := HC.out.same
        rw [Lib.toList_data, Lib.toList_data] at this
        have h2 : (((0 : Nat) : Int) == 0) = true := by decide
        rw [h2, beq_iff_eq] at this
        exact ByteArray.ext (Array.toList_inj.1 this)
      have hsame' : (S.toList == t.toList) = true := by rw [hsame]; decide
      have hsum : ((sumN a b S.data.toList : Nat) : Int) = ((sumN a b t.data.toList : Nat) : Int) := by rw [hst]
      clear hsame
      go_wp2
      go_ret
      exact ⟨rfl, F3.out⟩
    · have hy1 : ((y : Int) == 0) = false := by rw [beq_eq_false_iff_ne]; omega
      rw [hy1] at hsame
      go_wp2
      go_ret
      exact ⟨rfl, F3.out⟩
  · obtain ⟨i, v, t, hc⟩ := chg_is s g y hg hy h0 h7
    have hne : s.toList.isEmpty = false := nonempty_is s h0
    have h7' : (s.size : Int) ≤ 7 := by omega
    have h7'' : ¬ (7 : Int) < s.size := by omega
    go_enter Tryd.func7, Tryd.ntmps7
    go_wp2_with fail
    refine (examples_any _ HT.out).mono ?_
    rintro e w1 ⟨rfl, hb1⟩
    have B1 := Lib.hid hb1
    clear hb1
    go_wp2_with fail
    have hb2 : Below w.heap.size w (Lib.bytesWorld w1 5 s) := bytes_below B1.out B1.out.size _ _
    have hcv := cv_to w1 s
    have hbi := BytesIn.new w1 s
    have hfz := bytes_free w1 s i hc.lt
    obtain ⟨W1, hW1⟩ : ∃ W1, W1 = Lib.bytesWorld w1 5 s := ⟨_, rfl⟩
    obtain ⟨c, hcc⟩ : ∃ c, c = grownCap w1 s.size 0 5 := ⟨_, rfl⟩
    obtain ⟨q, hq⟩ : ∃ q, q = w1.heap.size := ⟨_, rfl⟩
    rw [← hW1] at hb2 hcv hbi hfz
    rw [← hcc] at hcv
    rw [← hq] at hcv hbi hfz
    have hqw : w.heap.size ≤ q := by rw [hq]; exact B1.out.size
    clear hW1 hcc hq
    have HB2 := Lib.hid hb2
    have HBI := Lib.hid hbi
    have HC := Lib.hid hc
    obtain ⟨x, hx⟩ : ∃ x, x = (bytesOf s).getD i 0 := ⟨_, rfl⟩
    have hcell := hbi.2 i hc.lt
    rw [← hx] at hcell
    have hv := hc.val.symm
    rw [← hx] at hv
    have hix := hc.ix
    have hlt := hc.lt
    have hpos := hc.pos
    have hcv2 := cv_set W1 q c i v s t hbi hlt hc.is
    have fin : Below w.heap.size w (W1.setCell ⟨q, i, none⟩ (.int .u8 v)) := HB2.out.setCell (p := ⟨q, i, none⟩) hqw _
    have FIN := Lib.hid fin
    clear hb2 hbi hc hx fin
    rw [hcv]
    go_wp2_with fail
    refine (Sum_any a b s _ ha hb (by have := HC.out.le; omega)).mono ?_
    rintro e w2 ⟨rfl, hb⟩
    have F2 := Lib.hid (FIN.out.trans (hb.mono FIN.out.size))
    clear hb
    go_wp2_with fail
    refine (Sum_any a b t _ ha hb (by have := HC.out.sz; omega)).mono ?_
    rintro e w3 ⟨rfl, hb⟩
    have F3 := Lib.hid (F2.out.trans (hb.mono F2.out.size))
    clear hb
    have hsame := HC.out.same
    by_cases hy0 : y = 0
    · subst hy0
      have hst : s = t := by
        have := HC.out.same
        rw [Lib.toList_data, Lib.toList_data] at this
        have h2 : (((0 : Nat) : Int) == 0) = true := by decide
        rw [h2, beq_iff_eq] at this
        exact ByteArray.ext (Array.toList_inj.1 this)
      have hsame' : (s.toList == t.toList) = true := by rw [hsame]; decide
      have hsum : ((sumN a b s.data.toList : Nat) : Int) = ((sumN a b t.data.toList : Nat) : Int) := by rw [hst]
      clear hsame
      go_wp2
      go_ret
      exact ⟨rfl, F3.out⟩
    · have hy1 : ((y : Int) == 0) = false := by rw [beq_eq_false_iff_ne]; omega
      rw [hy1] at hsame
      go_wp2
      go_ret
      exact ⟨rfl, F3.out⟩
  · have hx7 : (s.extract 0 7).size = 7 := by rw [ByteArray.size_extract]; omega
    obtain ⟨i, v, t, hc⟩ := chg_is (s.extract 0 7) g y hg hy (by omega) (by omega)
    have hne : (s.extract 0 7).toList.isEmpty = false := nonempty_is _ (by omega)
    have h7' : (7 : Int) < s.size := by omega
    go_enter Tryd.func7, Tryd.ntmps7
    go_wp2_with fail
    refine (examples_any _ HT.out).mono ?_
    rintro e w1 ⟨rfl, hb1⟩
    have B1 := Lib.hid hb1
    clear hb1
    go_wp2_with fail
    clear hx7
    generalize (s.extract 0 7) = S at hc hne ⊢
    have hb2 : Below w.heap.size w (Lib.bytesWorld w1 5 S) := bytes_below B1.out B1.out.size _ _
    have hcv := cv_to w1 S
    have hbi := BytesIn.new w1 S
    have hfz := bytes_free w1 S i hc.lt
    obtain ⟨W1, hW1⟩ : ∃ W1, W1 = Lib.bytesWorld w1 5 S := ⟨_, rfl⟩
    obtain ⟨c, hcc⟩ : ∃ c, c = grownCap w1 S.size 0 5 := ⟨_, rfl⟩
    obtain ⟨q, hq⟩ : ∃ q, q = w1.heap.size := ⟨_, rfl⟩
    rw [← hW1] at hb2 hcv hbi hfz
    rw [← hcc] at hcv
    rw [← hq] at hcv hbi hfz
    have hqw : w.heap.size ≤ q := by rw [hq]; exact B1.out.size
    clear hW1 hcc hq
    have HB2 := Lib.hid hb2
    have HBI := Lib.hid hbi
    have HC := Lib.hid hc
    obtain ⟨x, hx⟩ : ∃ x, x = (bytesOf S).getD i 0 := ⟨_, rfl⟩
    have hcell := hbi.2 i hc.lt
    rw [← hx] at hcell
    have hv := hc.val.symm
    rw [← hx] at hv
    have hix := hc.ix
    have hlt := hc.lt
    have hpos := hc.pos
    have hcv2 := cv_set W1 q c i v S t hbi hlt hc.is
    have fin : Below w.heap.size w (W1.setCell ⟨q, i, none⟩ (.int .u8 v)) := HB2.out.setCell (p := ⟨q, i, none⟩) hqw _
    have FIN := Lib.hid fin
    clear hb2 hbi hc hx fin
    rw [hcv]
    go_wp2_with fail
    refine (Sum_any a b S _ ha hb (by have := HC.out.le; omega)).mono ?_
    rintro e w2 ⟨rfl, hb⟩
    have F2 := Lib.hid (FIN.out.trans (hb.mono FIN.out.size))
    clear hb
    go_wp2_with fail
    refine (Sum_any a b t _ ha hb (by have := HC.out.sz; omega)).mono ?_
    rintro e w3 ⟨rfl, hb⟩
    have F3 := Lib.hid (F2.out.trans (hb.mono F2.out.size))
    clear hb
    have hsame := HC.out.same
    by_cases hy0 : y = 0
    · subst hy0
      have hst : S = t := by
        have := HC.out.same
        rw [Lib.toList_data, Lib.toList_data] at this
        have h2 : (((0 : Nat) : Int) == 0) = true := by decide
        rw [h2, beq_iff_eq] at this
        exact ByteArray.ext (Array.toList_inj.1 this)
      have hsame' : (S.toList == t.toList) = true := by rw [hsame]; decide
      have hsum : ((sumN a b S.data.toList : Nat) : Int) = ((sumN a b t.data.toList : Nat) : Int) := by rw [hst]
      clear hsame
      go_wp2
      go_ret
      exact ⟨rfl, F3.out⟩
    · have hy1 : ((y : Int) == 0) = false := by rw [beq_eq_false_iff_ne]; omega
      rw [hy1] at hsame
      go_wp2
      go_ret
      exact ⟨rfl, F3.out⟩
theorem SipBytes_at (a b : Int) (s : ByteArray) (g y : Int) (w : World) (hT : TabAt w) (ha : (Lit.int .u64 a).wf = true) (hb : (Lit.int .u64 b).wf = true) (hs : s.size ≤ 140737488351232) (hg : (Lit.int .u8 g).wf = true) (hy : (Lit.int .u8 y).wf = true) :
    Calls Tryd.prog 7 #[.int .u64 a, .int .u64 b, .string s, .int .u8 g, .int .u8 y] w fun e w' => e = .returned (.bool true) ∧ Below w.heap.size w w' := by
  obtain ⟨a, rfl, h1⟩ := nat_u64 ha
  obtain ⟨b, rfl, h2⟩ := nat_u64 hb
  obtain ⟨g, rfl, h3⟩ := nat_u8 hg
  obtain ⟨y, rfl, h4⟩ := nat_u8 hy
  exact SipBytes_any a b g y s w hT h1 h2 h3 h4 (by omega)

end Go.Proofs.YtjlhfjcjmeonmaaDoor.HSip
