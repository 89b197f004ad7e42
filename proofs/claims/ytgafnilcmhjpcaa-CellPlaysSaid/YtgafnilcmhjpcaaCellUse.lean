/- Cells of one's own: Add; of, Same, walked. Conditions: the numbers are of their kinds' ranges. -/
import Derived.Test.YtgafnilcmhjpcaaCellText
import Derived.Test.YtgafnilcmhjpcaaHistOf
namespace Go.Proofs.Ytgafnilcmhjpcaa.HCell
set_option linter.unusedVariables false
open Go.RowKit Go.Proofs.Ytgafnilcmhjpcaa.HMem Go.Proofs.Ytgafnilcmhjpcaa.HHist Go.Proofs.Ytgafnilcmhjpcaa.HWide
open Go.Proofs.Ytgafnilcmhjpcaa.Print (I64)

/-- A cell of one's own: all its blocks are from some place on. -/
def SC (B : Nat) (w : World) (p : Nat) (c : CM) : Prop := ∃ G, CellAt w p G c ∧ COk c ∧ ∀ g ∈ G, B ≤ g
theorem SC.mono {B : Nat} {w w' : World} {p : Nat} {c : CM} (h : SC B w p c) (k : Below w.heap.size w w') : SC B w' p c := by
  obtain ⟨G, h1, h2, h3⟩ := h
  exact ⟨G, h1.mono k, h2, h3⟩
theorem SC.ok {B : Nat} {w : World} {p : Nat} {c : CM} (h : SC B w p c) : COk c := by obtain ⟨_, _, h, _⟩ := h; exact h
theorem c_add {B : Nat} {w : World} {p : Nat} {c : CM} (h : SC B w p c) (hB : B ≤ w.heap.size) (n : Int) (hn : I64 n) :
    Calls Try.prog 24 #[.pointer (some ⟨p, 0, none⟩), .int .i64 n] w fun e w' => e = .returned (.int .i64 (addC c n).2) ∧ SC B w' p (addC c n).1 ∧ Below B w w' := by
  obtain ⟨G, h1, h2, h3⟩ := h
  refine (HCell.Add_any h1 h2 n hn).mono ?_
  rintro e w' ⟨rfl, G', k1, k2⟩
  refine ⟨rfl, ⟨G', k1, h2.add hn, fun g hg => ?_⟩, k2.chg.below h3 hB⟩
  rcases k2.foot g hg with h' | h'
  · exact h3 g h'
  · omega
/-- A cell of numbers. -/
def ofC (fr : Int) (b : Nat) (ns : List Int) : CM := ns.foldl (fun c n => (addC c n).1) (newC fr b)
theorem ofC_take (fr : Int) (b : Nat) (ns : List Int) (k : Nat) (x : Int) (h : ns[k]? = some x) : ofC fr b (ns.take (k + 1)) = (addC (ofC fr b (ns.take k)) x).1 := by
  unfold ofC
  rw [List.take_add_one, h, List.foldl_append]
  rfl
theorem str_self (s : ByteArray) : (s.toList == s.toList) = true := by simp
set_option maxHeartbeats 2000000 in
theorem of_any (w : World) (fr : Int) (b : Nat) (v : Value) (ns : List Int) (hb : b ≤ 4) (hf : I64 fr) (hv : NRow .i64 w v ns) (hz : ∀ x ∈ ns, I64 x) (hl : ns.length ≤ 4294967296) :
    Calls Try.prog 17 #[.int .i64 fr, .int .i64 b, v] w fun e w' => ∃ p, e = .returned (.pointer (some ⟨p, 0, none⟩)) ∧ SC w.heap.size w' p (ofC fr b ns) ∧ Below w.heap.size w w' := by
  obtain ⟨a, c, rfl, h2, h3, h4⟩ := hv.form
  obtain ⟨n, hn⟩ : ∃ n, n = ns.length := ⟨_, rfl⟩
  have HN := Lib.hid hn
  have HV := Lib.hid hv
  rw [← hn] at h2 hl ⊢
  clear hv h4 hn
  obtain ⟨B, hB⟩ : ∃ B, B = w.heap.size := ⟨_, rfl⟩
  have HB := Lib.hid hB
  go_enter Try.func17, Try.ntmps17
  go_wp2_with fail
  refine (HCell.New_yes fr b w hb).mono ?_
  rintro e w1 ⟨p, G, rfl, k1, hG, b1⟩
  have S1 := Lib.hid (show SC B w1 p (newC fr b) from ⟨G, k1, COk.new fr b hf hb, fun g hg => by rw [hB]; exact hG g hg⟩)
  have B1 := Lib.hid (show Below B w w1 by rw [hB]; exact b1)
  try rw [← hB]
  clear k1 hG b1 hB
  go_wp2_with fail
  go_loopw [9] (fun x wr => ∃ j : Nat, j ≤ n ∧ x = .int .i64 j ∧ SC B wr p (ofC fr b (ns.take j)) ∧ Below B w wr) (fun x _ => n - (intOf x).toNat)
  case atStart => exact ⟨0, Nat.zero_le _, rfl, S1.out, B1.out⟩
  case round =>
    obtain ⟨j, hj, rfl, hh, bb⟩ := hrel
    have HH := Lib.hid hh
    have BB := Lib.hid bb
    have hBw : B ≤ wr.heap.size := by have := bb.size; have := HB.out; omega
    have NR := HV.out.mono (w' := wr) (by rw [← HB.out]; exact bb)
    clear hh bb
    rcases Nat.lt_or_ge j n with hlt | hge
    · have hj1 : (j : Int) < n := by omega
      obtain ⟨x, hx⟩ : ∃ x, ns[j]? = some x := ⟨_, List.getElem?_eq_getElem (by rw [← HN.out]; exact hlt)⟩
      obtain ⟨_, _, e0, _, _, hc⟩ := NR.form
      cases e0
      obtain ⟨a', rfl, c0⟩ := hc j x hx
      have ET := Lib.hid (ofC_take fr b ns j x hx)
      have K := Lib.hid (c_add HH.out hBw x (hz x (List.mem_of_getElem? hx)))
      have HLT := Lib.hid hlt
      clear hc hx hlt NR
      go_wp2_with fail
      refine K.out.mono ?_
      rintro e w6 ⟨rfl, s6, b6⟩
      have S6 := Lib.hid s6
      have B6 := Lib.hid (BB.out.trans b6)
      clear s6 b6 K c0
      go_wp2
      go_roundw
      case rel => exact ⟨j + 1, HLT.out, by go_num, by rw [ET.out]; exact S6.out, B6.out⟩
      case measure => have := HLT.out; simp [intOf]; omega
    · obtain rfl : j = n := by omega
      have hj1 : ¬ (j : Int) < j := by omega
      have RES := Lib.hid (show SC B wr p (ofC fr b ns) by
        have := HH.out
        rwa [List.take_of_length_le (by rw [← HN.out]; exact Nat.le_refl _)] at this)
      clear hge HH NR
      go_wp2
      go_ret
      exact ⟨p, rfl, by rw [← HB.out]; exact RES.out, by rw [← HB.out]; exact BB.out⟩
theorem Same_yes {w : World} {p q : Nat} {G F : List Nat} {c d : CM} (k : CellAt w p G c) (kd : CellAt w q F d) (ho : COk c) (hod : COk d) (e : encC c = encC d) :
    Calls Try.prog 27 #[.pointer (some ⟨p, 0, none⟩), .pointer (some ⟨q, 0, none⟩)] w fun e w' => e = .returned (.bool true) ∧ Below w.heap.size w w' := by
  obtain ⟨T, hT⟩ : ∃ T, T = strOfNums (encC c) := ⟨_, rfl⟩
  have K1 := Lib.hid (fun v (hv : Below w.heap.size w v) => HCell.Put_any (k.mono hv) ho)
  have K2 := Lib.hid (fun v (hv : Below w.heap.size w v) => HCell.Put_any (kd.mono hv) hod)
  rw [← e] at K2
  rw [← hT] at K1 K2
  clear hT k kd
  have t1 := str_self T
  go_enter Try.func27, Try.ntmps27
  go_wp2_with fail
  refine (K1.out w (Below.refl _ _)).mono ?_
  rintro e w1 ⟨rfl, b1⟩
  go_wp2_with fail
  refine (K2.out w1 b1).mono ?_
  rintro e w2 ⟨rfl, b2⟩
  have B2 := Lib.hid (b1.trans (b2.mono b1.size))
  clear b1 b2
  go_wp2
  go_ret
  exact ⟨by first | rfl | simp, B2.out⟩
end Go.Proofs.Ytgafnilcmhjpcaa.HCell
