/- HistParts: the law, walked. -/
import Derived.Test.YtmhljblfbnjopaaHistRankP
import Derived.Test.YtmhljblfbnjopaaApp
namespace Go.Proofs.Ytmhljblfbnjopaa.HHist
set_option linter.unusedVariables false
open Go.RowKit Go.Proofs.Ytmhljblfbnjopaa.HMem Go.Proofs.Ytmhljblfbnjopaa.HBucket Go.Proofs.Ytmhljblfbnjopaa.HApp
open Go.Proofs.Ytmhljblfbnjopaa.Print (I64)

theorem infoI : (Try.prog.info? 2).map (fun i => (i.zero, i.size, i.bytes)) = some (some (.int .i64 0), 1, 8) := by kernel_rfl

set_option maxRecDepth 20000 in
set_option maxHeartbeats 4000000 in
theorem HistParts_any (b0 : Nat) (hb0 : b0 < 256) (x0 : Int) (hx0 : I64 x0) (v : Value) (ns : List Int) (c d : Nat) (hc : c < 256) (hd : d < 256) (w : World) (hv : NRow .i64 w v ns) (hi : ∀ x ∈ ns, I64 x) :
    Calls Try.prog 6 #[.int .u8 b0, .int .i64 x0, v, .int .u8 c, .int .u8 d] w fun e w' => e = .returned (.bool true) ∧ Below w.heap.size w w' := by
  obtain ⟨i0, hi0, hz0, hz1, hz2⟩ : ∃ i, Try.prog.info? 2 = some i ∧ i.zero = some (.int .i64 0) ∧ i.size = 1 ∧ i.bytes = 8 := by
    have := infoI
    cases h : Try.prog.info? 2 with
    | none => rw [h] at this; cases this
    | some i => rw [h] at this; simp at this; exact ⟨i, rfl, this.1, this.2.1, this.2.2⟩
  go_enter Try.func6, Try.ntmps6
  go_wp2_with fail
  refine (examples_any _).mono ?_
  rintro e w1 ⟨rfl, b1⟩
  have B1 := Lib.hid b1
  have V1 := Lib.hid (hv.mono b1)
  clear b1
  obtain ⟨a, cp, rfl, hcap, hmax, _⟩ := hv.form
  clear hv
  obtain ⟨n, hn⟩ : ∃ n, n = ns.length := ⟨_, rfl⟩
  have HN := Lib.hid hn
  rw [← hn] at hcap V1 ⊢
  clear hn
  have em : (min (n : Int) 29).toNat = min n 29 := by omega
  have V2 := V1.out.take (min (n : Int) 29).toNat (by omega)
  have hl2 : (ns.take (min (n : Int) 29).toNat).length = (min (n : Int) 29).toNat := V2.cells.1
  have EM := Lib.hid em
  clear em
  go_wp2_with (at_builtin; refine append_any _ rfl _ _ 22 rfl w.heap.size 2 i0 (.int .i64 0) 1 8 Try.underlying22 hi0 hz0 hz1 hz2 rfl (by decide) _ 1 [.int .i64 x0] rfl (World.ownsRow_lit w1 #[.int .i64 x0] 1 B1.out.size (by decide) rfl) a (min (n : Int) 29).toNat cp (vz .i64 (ns.take (min (n : Int) 29).toNat)) rfl ?c0 ?c1 ?c2 ?c3 ?c4 ?c5 ?c6 ?_)
  case c0 => intro ha; exact ⟨by have := V1.out.none ha; omega, (V1.out.none ha).2⟩
  case c1 => rw [vz_length, hl2]; omega
  case c2 =>
    intro ad ha j u hu
    unfold vz at hu
    rw [List.getElem?_map] at hu
    cases hx : (ns.take (min (n : Int) 29).toNat)[j]? with
    | none => rw [hx] at hu; cases hu
    | some x =>
      rw [hx] at hu
      cases hu
      have h := V2.cells.2 ad ha j x hx
      exact ((Below.refl _ _).alloc (Nat.le_refl _) _).cell (World.block_lt_of_cell? _ _ h) |>.trans h
  case c3 => exact vz_one _ _
  case c4 => unfold maxLen; omega
  case c5 => omega
  case c6 => exact Nat.le_trans B1.out.size (by simp)
  intro v' w2 o2 b2
  obtain ⟨al, hal⟩ : ∃ al, al = x0 :: ns.take (min (n : Int) 29).toNat := ⟨_, rfl⟩
  have o2' : Zs 2 .i64 w.heap.size w2 v' al := by
    have e1 : al.length = 1 + (min (n : Int) 29).toNat := by rw [hal, List.length_cons, hl2]; omega
    have e2 : vz .i64 al = [.int .i64 x0] ++ vz .i64 (ns.take (min (n : Int) 29).toNat) := by rw [hal]; rfl
    show w2.ownsRow _ _ _ _ _ _
    rw [e1, e2]
    exact o2
  have hlen : 1 ≤ al.length ∧ al.length ≤ 30 := by
    have := EM.out
    rw [hal, List.length_cons, hl2]; omega
  have hIal : ∀ x ∈ al, I64 x := by
    intro x hx
    rw [hal] at hx
    rcases List.mem_cons.1 hx with rfl | hx
    · exact hx0
    · exact hi x (List.mem_of_mem_take hx)
  have h0 : x0 ∈ al := by rw [hal]; simp
  have B2 := Lib.hid (show Below w.heap.size w w2 from (bt B1.out (Nat.le_refl _) ((Below.refl _ _).alloc (Nat.le_refl _) _)).trans b2)
  obtain ⟨a2, c2, rfl, f1, f2, f3, f4⟩ := o2'.form
  obtain ⟨k, hk⟩ : ∃ k, k = al.length := ⟨_, rfl⟩
  have O2 := Lib.hid o2'
  have F4 := Lib.hid f4
  rw [← hk] at f1 f3 hlen O2 ⊢
  have HK := Lib.hid hk
  clear hal o2 b2 o2' f4 hk EM V2 hl2 V1
  go_wp2_with fail
  obtain ⟨b, hb⟩ : ∃ b, b = b0 % 5 := ⟨_, rfl⟩
  have hb4 : b ≤ 4 := by omega
  rw [show (b0 : Int) % 5 = (b : Int) by omega]
  have N2 : NRow .i64 w2 (.slice a2 k c2) al := by
    have hk := HK.out
    cases a2 with
    | none =>
      have := f3 rfl
      omega
    | some ad =>
      refine .inr ⟨ad, c2, by rw [hk], by omega, f2, fun i x hx => ?_⟩
      obtain ⟨a', e, h⟩ := F4.out i x hx
      cases e
      exact h
  have K := of_any b hb4 _ _ w2 N2 (by have := HK.out; omega) hIal
  have HB := Lib.hid hb
  clear hb N2
  refine K.mono ?_
  rintro e w3 ⟨rfl, s3, b3⟩
  obtain ⟨p, hp⟩ : ∃ p, p = w2.heap.size := ⟨_, rfl⟩
  rw [← hp] at s3 b3 ⊢
  have hpw : w.heap.size ≤ p := by rw [hp]; exact B2.out.size
  have C3 := Lib.hid (show ∀ (i : Nat) (x : Int), al[i]? = some x → ∃ a', a2 = some a' ∧ w3.cell? (a'.add i) = some (Value.int IntKind.i64 x) from fun i x hx => by
    obtain ⟨a', e, h⟩ := F4.out i x hx
    exact ⟨a', e, ((show Below w2.heap.size w2 w3 by rw [← hp]; exact b3).cell (World.block_lt_of_cell? _ _ h)).trans h⟩)
  have S3 := Lib.hid s3
  have B3 := Lib.hid (B2.out.trans (b3.mono hpw))
  clear K s3 b3 hp F4 O2
  go_wp2_with fail
  go_loopw [14, 15, 16] (fun x y z wr => ∃ (lo hi : Int) (j : Nat), x = .int .i64 lo ∧ y = .int .i64 hi ∧ z = .int .i64 j ∧ j ≤ k ∧ lo ∈ al ∧ hi ∈ al ∧ (∀ i u, i < j → al[i]? = some u → lo ≤ u ∧ u ≤ hi) ∧ wr = w3) (fun _ _ z _ => k - (intOf z).toNat)
  case atStart => exact ⟨x0, x0, 0, rfl, rfl, rfl, Nat.zero_le _, h0, h0, fun i u h => by omega, rfl⟩
  case round =>
    obtain ⟨lo, hi, j, rfl, rfl, rfl, hj, hlo, hhi, hbd, rfl⟩ := hrel
    rcases Nat.lt_or_ge j k with hlt | hge
    · have hj1 : (j : Int) < k := by omega
      obtain ⟨x, hx⟩ : ∃ x, al[j]? = some x := ⟨_, List.getElem?_eq_getElem (by rw [← HK.out]; exact hlt)⟩
      obtain ⟨a', rfl, c0⟩ := C3.out j x hx
      have HX := Lib.hid hx
      have HBD := Lib.hid hbd
      have hxm := List.mem_of_getElem? hx
      have hlt' := Lib.hid hlt
      clear hx hlt hbd
      go_wp2
      go_roundw
      case rel =>
        refine ⟨min lo x, max hi x, j + 1, rfl, rfl, by go_num, hlt'.out, ?_, ?_, ?_, by first | rfl | trivial⟩
        · rcases Int.le_total lo x with h | h
          · rw [Int.min_eq_left h]; exact hlo
          · rw [Int.min_eq_right h]; exact hxm
        · rcases Int.le_total hi x with h | h
          · rw [Int.max_eq_right h]; exact hxm
          · rw [Int.max_eq_left h]; exact hhi
        · intro i u hi' hu
          by_cases e : i = j
          · subst e
            have := HX.out
            rw [hu] at this
            cases this
            omega
          · have := HBD.out i u (by omega) hu
            omega
      case measure => have := hlt'.out; simp [intOf]; omega
    · have hj1 : ¬ (j : Int) < k := by omega
      have HALL := Lib.hid (show ∀ u ∈ al, lo ≤ u ∧ u ≤ hi from fun u hu => by
        obtain ⟨i, hi', rfl⟩ := List.getElem_of_mem hu
        exact hbd i _ (by have := HK.out; omega) (List.getElem?_eq_getElem hi'))
      clear hge hbd
      obtain ⟨P, hP⟩ : ∃ P, P = min c d % 21 := ⟨_, rfl⟩
      obtain ⟨Q, hQ⟩ : ∃ Q, Q = max P (max c d % 21) := ⟨_, rfl⟩
      obtain ⟨A, B, C, D, qA, qB, qC, qD, ⟨u1, u2⟩, ⟨u3, u4⟩, u5, u6⟩ := parts_plain b hb4 al (by have := HK.out; omega) hIal lo hi hlo hhi (fun x hx => (HALL.out x hx).1) (fun x hx => (HALL.out x hx).2) P Q (by omega) (by omega)
      have eP : (min (c : Int) (d : Int)) % 21 = (P : Int) := by omega
      have eQ : max (P : Int) ((max (c : Int) (d : Int)) % 21) = (Q : Int) := by omega
      have hP21 : P ≤ 20 := by omega
      have hQ21 : Q ≤ 20 := by omega
      have QA := Lib.hid qA
      have QB := Lib.hid qB
      have QC := Lib.hid qC
      have QD := Lib.hid qD
      clear hP hQ qA qB qC qD
      go_wp2_with fail
      have K := s_quant S3.out P 20 (by omega) (by omega)
      rw [QA.out] at K
      refine K.mono ?_
      rintro e w4 ⟨rfl, b4⟩
      have S4 := Lib.hid (S3.out.mono b4)
      have B4 := Lib.hid (bt B3.out (Nat.le_refl _) b4)
      clear b4 K
      go_wp2_with fail
      have K := s_quant S4.out Q 20 (by omega) (by omega)
      rw [QB.out] at K
      refine K.mono ?_
      rintro e w5 ⟨rfl, b5⟩
      have S5 := Lib.hid (S4.out.mono b5)
      have B5 := Lib.hid (bt B4.out (Nat.le_refl _) b5)
      clear b5 K
      go_wp2_with fail
      have K := s_quant S5.out 0 7 (by omega) (by omega)
      rw [QC.out] at K
      refine K.mono ?_
      rintro e w6 ⟨rfl, b6⟩
      have S6 := Lib.hid (S5.out.mono b6)
      have B6 := Lib.hid (bt B5.out (Nat.le_refl _) b6)
      clear b6 K
      go_wp2_with fail
      have K := s_quant S6.out 9 9 (by omega) (by omega)
      rw [QD.out] at K
      refine K.mono ?_
      rintro e w7 ⟨rfl, b7⟩
      have S7 := Lib.hid (S6.out.mono b7)
      have B7 := Lib.hid (bt B6.out (Nat.le_refl _) b7)
      clear b7 K
      go_wp2_with fail
      have K := s_quant S7.out 3 2 (by omega) (by omega)
      rw [quantL_arg b 3 2 (.inr (.inr (by omega)))] at K
      refine K.mono ?_
      rintro e w8 ⟨rfl, b8⟩
      have S8 := Lib.hid (S7.out.mono b8)
      have B8 := Lib.hid (bt B7.out (Nat.le_refl _) b8)
      clear b8 K
      go_wp2_with fail
      have K := s_quant S8.out 0 0 (by omega) (by omega)
      rw [quantL_arg b 0 0 (.inl (by omega))] at K
      refine K.mono ?_
      rintro e w9 ⟨rfl, b9⟩
      have S9 := Lib.hid (S8.out.mono b9)
      have B9 := Lib.hid (bt B8.out (Nat.le_refl _) b9)
      clear b9 K
      go_wp2
      go_ret
      exact ⟨rfl, B9.out⟩
theorem HistParts_row {b0 x0 c d : Int} {v : Value} {ns : List Int} {w : World} (h0 : (Lit.int .u8 b0).wf = true) (hx : (Lit.int .i64 x0).wf = true) (h1 : (Lit.int .u8 c).wf = true) (h2 : (Lit.int .u8 d).wf = true) (hv : NRow .i64 w v ns) (hi : ∀ x ∈ ns, (Lit.int .i64 x).wf = true) :
    Calls Try.prog 6 #[.int .u8 b0, .int .i64 x0, v, .int .u8 c, .int .u8 d] w fun e w' => e = .returned (.bool true) ∧ Below w.heap.size w w' := by
  obtain ⟨b, rfl, hb⟩ := u8_wf h0
  obtain ⟨c, rfl, hc⟩ := u8_wf h1
  obtain ⟨d, rfl, hd⟩ := u8_wf h2
  exact HistParts_any b hb x0 (i64_wf hx) v ns c d hc hd w hv (fun x hx => i64_wf (hi x hx))
end Go.Proofs.Ytmhljblfbnjopaa.HHist
