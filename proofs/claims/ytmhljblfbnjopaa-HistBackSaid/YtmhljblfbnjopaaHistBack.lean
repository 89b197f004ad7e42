/- HistBack: the law, walked. -/
import Derived.Test.YtmhljblfbnjopaaHistOf
import Derived.Test.YtmhljblfbnjopaaHistBackP
namespace Go.Proofs.Ytmhljblfbnjopaa.HHist
set_option linter.unusedVariables false
open Go.RowKit Go.Proofs.Ytmhljblfbnjopaa.HMem Go.Proofs.Ytmhljblfbnjopaa.HBucket
open Go.Proofs.Ytmhljblfbnjopaa.Print (I64)

set_option maxRecDepth 20000 in
set_option maxHeartbeats 4000000 in
theorem HistBack_any (b0 : Nat) (hb0 : b0 < 256) (v : Value) (ns : List Int) (s : ByteArray) (c : Nat) (hc : c < 65536) (w : World) (hv : NRow .i64 w v ns) (hi : ∀ x ∈ ns, I64 x) (hs : s.size ≤ 140737488351232) :
    Calls Try.prog 5 #[.int .u8 b0, v, .string s, .int .u16 c] w fun e w' => e = .returned (.bool true) ∧ Below w.heap.size w w' := by
  go_enter Try.func5, Try.ntmps5
  go_wp2_with fail
  refine (examples_any _).mono ?_
  rintro e w1 ⟨rfl, b1⟩
  have B1 := Lib.hid b1
  have V1 := Lib.hid (hv.mono b1)
  clear b1
  obtain ⟨a, cp, rfl, hcap, hmax, _⟩ := hv.form
  clear hv
  obtain ⟨n, hn⟩ : ∃ n, n = ns.length := ⟨_, rfl⟩
  have HN := Lib.hid hn
  rw [← hn] at hcap V1 ⊢
  clear hn
  go_wp2_with fail
  obtain ⟨b, hb⟩ : ∃ b, b = b0 % 5 := ⟨_, rfl⟩
  have hb4 : b ≤ 4 := by omega
  rw [show (b0 : Int) % 5 = (b : Int) by omega]
  obtain ⟨m, hm⟩ : ∃ m, m = min n 40 := ⟨_, rfl⟩
  rw [show (min (n : Int) 40).toNat = m by omega]
  have V2 := V1.out.take m (by omega)
  have hl2 : (ns.take m).length ≤ 40 := by rw [List.length_take]; omega
  have K := of_any b hb4 _ _ w1 V2 (by omega) (fun x hx => hi x (List.mem_of_mem_take hx))
  obtain ⟨l, hl⟩ : ∃ l, l = ofL b (ns.take m) := ⟨_, rfl⟩
  have htot : total l ≤ 40 := by rw [hl, total_ofL]; exact hl2
  rw [← hl] at K
  have HB := Lib.hid hb
  have HM := Lib.hid hm
  clear hb hm hl V2 V1
  refine K.mono ?_
  rintro e w2 ⟨rfl, s2, b2⟩
  obtain ⟨p, hp⟩ : ∃ p, p = w1.heap.size := ⟨_, rfl⟩
  rw [← hp] at s2 b2 ⊢
  have hpw : w.heap.size ≤ p := by rw [hp]; exact B1.out.size
  have S2 := Lib.hid s2
  have B2 := Lib.hid (B1.out.trans (b2.mono hpw))
  have hlen : l.length ≤ 40 := Nat.le_trans (len_le_total l (fun x hx => (s2.ok.item x hx).1)) htot
  obtain ⟨P, hP⟩ : ∃ P, P = strOfNums (encL b l) := ⟨_, rfl⟩
  have HP := Lib.hid hP
  have hPs : P.size = 3 + l.length * 10 := by rw [hP, strOfNums_size, encL_length]
  have HPd := Lib.hid (show P.data.toList = ub (encL b l) by rw [hP, strOfNums_data]; rfl)
  have hne : P.toList.isEmpty = false := by
    rw [Lib.toList_data]
    cases h : P.data.toList with
    | nil =>
      have := congrArg List.length h
      rw [Array.length_toList] at this
      change P.size = 0 at this
      omega
    | cons => rfl
  have HPut := Lib.hid (fun (u : World) (h : SH p u p b l) => (show Calls Try.prog 22 #[.pointer (some ⟨p, 0, none⟩)] u fun e w' => e = .returned (.string P) ∧ Below u.heap.size u w' by rw [hP]; exact s_put h))
  have HPs := Lib.hid hPs
  have hPb : P.size + s.size ≤ 9223372036854775807 := by omega
  have hPb2 : (P.size : Int) + (s.size : Int) ≤ 9223372036854775807 := by omega
  clear s2 b2 hp K hP hPs
  go_wp2_with fail
  refine (HPut.out _ S2.out).mono ?_
  rintro e w3 ⟨rfl, b3⟩
  have S3 := Lib.hid (S2.out.mono b3)
  have B3 := Lib.hid (bt B2.out (Nat.le_refl _) b3)
  clear b3
  go_wp2_with fail
  refine (HPut.out _ S3.out).mono ?_
  rintro e w4 ⟨rfl, b4⟩
  have S4 := Lib.hid (S3.out.mono b4)
  have B4 := Lib.hid (bt B3.out (Nat.le_refl _) b4)
  clear b4
  go_wp2_with fail
  have hsz : (P.append s).size = P.size + s.size := by
    show (P.append s).data.size = P.data.size + s.data.size
    rw [ByteArray.append_eq, ByteArray.data_append, Array.size_append]
  refine (Get_any (P.append s) w4 (by rw [hsz, HPs.out]; omega)).mono ?_
  intro e w5 h5
  have hd5 : decL (P.append s).data.toList = some (b, l, s.data.toList) := by
    rw [ByteArray.append_eq, ByteArray.data_append, Array.toList_append, HPd.out]
    exact decL_enc b l S4.out.ok _
  rcases h5 with ⟨h5, _⟩ | ⟨b', l', r', q, G', h5, rfl, hx, hxo, hG, b5⟩
  · rw [hd5] at h5; exact absurd h5 (by simp)
  rw [hd5] at h5
  injection h5 with h5
  injection h5 with e1 h5
  injection h5 with e2 e3
  subst e1 e2
  obtain rfl : s = r' := by
    cases s with | mk d => cases r' with | mk d' => cases d with | mk d => cases d' with | mk d' => simp at e3; rw [e3]
  have HX := Lib.hid hx
  have HXO := Lib.hid hxo
  have HG := Lib.hid hG
  have S5 := Lib.hid (S4.out.mono b5)
  have B5 := Lib.hid (bt B4.out (Nat.le_refl _) b5)
  clear b5 hd5 hx hxo hG e3
  go_wp2_with fail
  refine (HPut.out _ S5.out).mono ?_
  rintro e w6 ⟨rfl, b6⟩
  have S6 := Lib.hid (S5.out.mono b6)
  have X6 := Lib.hid (HX.out.mono b6)
  have B6 := Lib.hid (bt B5.out (Nat.le_refl _) b6)
  clear b6
  go_wp2_with fail
  refine (HPut.out _ S6.out).mono ?_
  rintro e w7 ⟨rfl, b7⟩
  have S7 := Lib.hid (S6.out.mono b7)
  have X7 := Lib.hid (X6.out.mono b7)
  have B7 := Lib.hid (bt B6.out (Nat.le_refl _) b7)
  clear b7
  have hp0 : ¬ (P.size : Int) = 0 := by rw [HPs.out]; omega
  obtain ⟨k, hk⟩ : ∃ k, k = c % P.size := ⟨_, rfl⟩
  have hkl : k < P.size := by rw [hk]; exact Nat.mod_lt _ (by omega)
  have ek : (c : Int) % (P.size : Int) = (k : Int) := by rw [hk]; omega
  have ek1 : (k : Int) ≤ (P.size : Int) := by omega
  clear hk
  go_wp2_with fail
  have hd8 : decL (P.extract 0 k).data.toList = none := by
    rw [Lib.extract_data, HPd.out, List.drop_zero]
    exact decL_cut b l S7.out.ok _ (by rw [← HPs.out]; omega)
  refine (Get_any (P.extract 0 k) w7 (by rw [ext_size _ _ _ (by omega) (by omega)]; rw [HPs.out] at hkl; omega)).mono ?_
  intro e w8 h8
  rcases h8 with ⟨_, rfl, b8⟩ | ⟨b', l', r', q', G'', h8, _⟩
  rotate_left
  · rw [hd8] at h8; exact absurd h8 (by simp)
  have S8 := Lib.hid (S7.out.mono b8)
  have X8 := Lib.hid (show SH w4.heap.size w8 q b l from ⟨_, X7.out.mono b8, HXO.out, HG.out⟩)
  have B8 := Lib.hid (bt B7.out (Nat.le_refl _) b8)
  clear b8 hd8
  go_wp2_with fail
  have K := s_put X8.out
  rw [← HP.out] at K
  refine K.mono ?_
  rintro e w9 ⟨rfl, b9⟩
  have S9 := Lib.hid (S8.out.mono b9)
  have B9 := Lib.hid (bt B8.out (Nat.le_refl _) b9)
  clear b9 K
  go_wp2_with fail
  refine (HPut.out _ S9.out).mono ?_
  rintro e w10 ⟨rfl, b10⟩
  have B10 := Lib.hid (bt B9.out (Nat.le_refl _) b10)
  clear b10
  go_wp2
  go_ret
  exact ⟨rfl, B10.out⟩
theorem HistBack_row {b0 c : Int} {v : Value} {ns : List Int} {s : ByteArray} {w : World} (h0 : (Lit.int .u8 b0).wf = true) (h1 : (Lit.int .u16 c).wf = true) (hv : NRow .i64 w v ns) (hi : ∀ x ∈ ns, (Lit.int .i64 x).wf = true) (hs : s.size ≤ 140737488351232) :
    Calls Try.prog 5 #[.int .u8 b0, v, .string s, .int .u16 c] w fun e w' => e = .returned (.bool true) ∧ Below w.heap.size w w' := by
  obtain ⟨a, rfl, ha⟩ := u8_wf h0
  obtain ⟨d, rfl, hd⟩ := u16_wf h1
  exact HistBack_any a ha v ns s d hd w hv (fun x hx => i64_wf (hi x hx)) hs
end Go.Proofs.Ytmhljblfbnjopaa.HHist
