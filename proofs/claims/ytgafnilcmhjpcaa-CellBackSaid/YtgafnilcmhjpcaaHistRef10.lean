/- The reference's histogram, walked: Get. Conditions: sizes. -/
import Derived.Test.YtgafnilcmhjpcaaHistRef9
import Derived.Test.YtgafnilcmhjpcaaHistBackP
namespace Go.Proofs.Ytgafnilcmhjpcaa.HHist
set_option linter.unusedVariables false
open Go.RowKit Go.Proofs.Ytgafnilcmhjpcaa.HMem Go.Proofs.Ytgafnilcmhjpcaa.HBucket Go.Proofs.Ytgafnilcmhjpcaa.HApp
open Go.Proofs.Ytgafnilcmhjpcaa.Print (I64)

theorem owns_same {w w' : World} {B : Nat} {e : TypeId} {size : Nat} {v : Value} {n : Nat} {xs : List Value} (h : w.ownsRow B e size v n xs) (s : ∀ g, B ≤ g → g < w.heap.size → w'.heap[g]? = w.heap[g]?) : w'.ownsRow B e size v n xs := by
  refine ⟨h.1, ?_⟩
  rcases h.2 with h | ⟨g, cap, cur, h1, h2, h3, h4⟩
  · exact .inl h
  · exact .inr ⟨g, cap, cur, h1, h2, by rw [s g h2 (heap_lt h3)]; exact h3, h4⟩
/-- What is being got: the histogram's block, its row of one's own. -/
structure RGot (w : World) (p b : Nat) (acc : IL) : Prop where
  ex : ∃ v, w.heap[p]? = some (.cells #[.int .i64 b, v] 109 (0, 0)) ∧ w.ownsRow (p + 1) 111 2 v acc.length (flat acc)
theorem RGot.hist {w : World} {p b : Nat} {acc : IL} (h : RGot w p b acc) : ∃ G, RHistAt w p G b acc ∧ ∀ g ∈ G, p ≤ g := by
  obtain ⟨v, h1, h2⟩ := h.ex
  obtain ⟨G, r, hg⟩ := Row.ofOwns h2
  exact ⟨p :: G, ⟨v, G, rfl, fun h => by have := hg p h; omega, h1, r⟩, fun g hg' => by
    rcases List.mem_cons.1 hg' with rfl | hg'
    · exact Nat.le_refl _
    · have := hg g hg'; omega⟩
theorem RGot.mono {w w' : World} {p b : Nat} {acc : IL} (h : RGot w p b acc) (k : Below w.heap.size w w') : RGot w' p b acc := by
  obtain ⟨v, h1, h2⟩ := h.ex
  exact ⟨v, (k.block p (heap_lt h1)).trans h1, owns_same h2 fun g _ hg => k.block g hg⟩
/-- Where the items end. -/
def LastIs (acc : IL) (last : Int) : Prop := (acc = [] ∧ last = -2147483649) ∨ ∃ r x, acc = r ++ [x] ∧ x.1 = last
theorem LastIs.snoc (acc : IL) (a : Int) (q : Nat) : LastIs (acc ++ [(a, q)]) a := .inr ⟨acc, (a, q), rfl, rfl⟩
theorem LastIs.le {acc : IL} {last : Int} (h : LastIs acc last) (hr : Rise acc) : ∀ y ∈ acc, y.1 ≤ last := by
  rcases h with ⟨rfl, _⟩ | ⟨r, x, rfl, rfl⟩
  · intro y hy; cases hy
  · intro y hy
    rcases List.mem_append.1 hy with hy | hy
    · have := (List.pairwise_append.1 hr).2.2 y hy x (by simp)
      omega
    · simp at hy; subst hy; exact Int.le_refl _
theorem LastIs.at {acc : IL} {last : Int} (h : LastIs acc last) (i : Nat) (hi : acc.length = i + 1) : ∃ x, acc[i]? = some x ∧ x.1 = last := by
  rcases h with ⟨rfl, _⟩ | ⟨r, x, rfl, rfl⟩
  · simp at hi
  · have : r.length = i := by simpa using hi
    exact ⟨x, by rw [← this]; simp, rfl⟩
/-- What Get answers. -/
def RGetRes (w : World) (b : Nat) (r : Option (IL × List UInt8)) (e : Ending) (w' : World) : Prop :=
  (r = none ∧ e = .returned (.tuple #[.pointer none, .string ⟨#[]⟩, .int .i64 2]) ∧ Below w.heap.size w w') ∨
  ∃ (l : IL) (s : ByteArray) (p : Nat) (G : List Nat), r = some (l, s.data.toList) ∧ e = .returned (.tuple #[.pointer (some ⟨p, 0, none⟩), .string s, .int .i64 0]) ∧ RHistAt w' p G b l ∧ HOk b l ∧ (∀ g ∈ G, w.heap.size ≤ g) ∧ Below w.heap.size w w'
set_option maxHeartbeats 4000000 in
set_option maxRecDepth 20000 in
theorem rGet_walk (s : ByteArray) (w : World) (hs : s.size ≤ 140737488355328) (b : Nat) (hb : b ≤ 4) (h3 : 3 ≤ s.size) (hb0 : num (s.data.toList.take 1) = b) (hlen : 3 + 10 * num ((s.data.toList.drop 1).take 2) ≤ s.size) :
    Calls Try.prog 48 #[.string s] w (RGetRes w b (decI b (num ((s.data.toList.drop 1).take 2)) (s.data.toList.drop 3) (-2147483649) [])) := by
  obtain ⟨i0, hi0, hz0, hz1, hz2⟩ := infoRI2
  have h3' : (3 : Int) ≤ s.size := by omega
  have t0 : decide ((s.size : Int) < 3) = false := by simp; omega
  have eb : num (s.data.toList.take 1) = (s[0]'(by omega)).toNat := by
    rw [take_byte s 0 (by omega)]; simp [num]
  have e0 : wrap64 (((s[0]'(by omega)).toNat : Nat) : Int) = (b : Int) := by
    rw [← hb0, eb]; unfold wrap64; have := (s[0]'(by omega)).toNat_lt; omega
  have e00 : (((s[0]'(by omega)).toNat : Nat) : Int) = (b : Int) := by rw [← hb0, eb]
  have t00 : decide ((4 : Int) < (b : Int)) = false := by simp; omega
  clear eb
  obtain ⟨RES, hR⟩ : ∃ RES, RES = decI b (num ((s.data.toList.drop 1).take 2)) (s.data.toList.drop 3) (-2147483649) [] := ⟨_, rfl⟩
  have HRR := Lib.hid hR
  rw [← hR]
  have e1 : (s.extract 1 3).data.toList = (s.data.toList.drop 1).take 2 := by rw [Lib.extract_data]
  have KG := Lib.hid (fun u : World => rNumber_any (s.extract 1 3) u (by rw [ext_size _ _ _ (by omega) (by omega)]; omega))
  rw [e1] at KG
  obtain ⟨m, hm⟩ : ∃ m, m = num ((s.data.toList.drop 1).take 2) := ⟨_, rfl⟩
  rw [← hm] at KG hlen HRR
  have hm2 : m < 65536 := by
    have := num_lt ((s.data.toList.drop 1).take 2)
    have h2 : ((s.data.toList.drop 1).take 2).length ≤ 2 := List.length_take_le _ _
    rw [hm]
    exact Nat.lt_of_lt_of_le this (Nat.le_trans (Nat.pow_le_pow_right (by decide) h2) (by decide))
  clear hm e1 hR hb0
  go_enter Try.func48, Try.ntmps48
  go_wp2_with fail
  refine (rNew_yes b w hb).mono ?_
  rintro e w1 ⟨rfl, h1, b1⟩
  obtain ⟨p, hp⟩ : ∃ p, p = w.heap.size := ⟨_, rfl⟩
  rw [← hp] at h1 ⊢
  have R1 := Lib.hid (show RGot w1 p b [] by
    obtain ⟨v, R, e1, hx, hc, hr⟩ := h1.ex
    rcases hr.2 with ⟨rfl, _⟩ | ⟨g, off, cap, cur, e2, _⟩
    · exact ⟨_, hc, rfl, .inl ⟨rfl, rfl⟩⟩
    · rw [e2] at e1; simp at e1)
  have B1 := Lib.hid b1
  have HP := Lib.hid hp
  clear h1 b1 hp
  go_wp2_with fail
  refine (KG.out w1).mono ?_
  rintro e w2 ⟨rfl, rfl⟩
  have t1 : decide (((s.size - 3 : Nat) : Int) < 10 * (m : Int)) = false := by simp; omega
  obtain ⟨S, hS⟩ : ∃ S, S = s.extract 3 s.size := ⟨_, rfl⟩
  have hSs : S.size = s.size - 3 := by rw [hS, ext_size _ _ _ (Nat.le_refl _) (by omega)]
  have hSl : S.data.toList = s.data.toList.drop 3 := by rw [hS, Lib.extract_to_end]
  have HSS := Lib.hid hS.symm
  rw [← hSl] at HRR
  have HS1 := Lib.hid (show 10 * m ≤ S.size ∧ S.size ≤ 140737488355328 by omega)
  clear hS hSl hSs e0 e00 t00 KG
  go_wp2_with fail
  rw [HSS.out]
  go_loopw [7, 8] (fun u x wr => ∃ (k i : Nat) (S' : ByteArray) (last : Int) (acc : IL), u = .string S' ∧ x = .int .i64 i ∧ i = acc.length ∧ i + k = m ∧ 10 * k ≤ S'.size ∧ S'.size ≤ 140737488355328 ∧ RES = decI b k S'.data.toList last acc ∧ LastIs acc last ∧ RGot wr p b acc ∧ HOk b acc ∧ Below w.heap.size w wr) (fun _ x _ => m - (intOf x).toNat)
  case atStart => exact ⟨m, 0, S, -2147483649, [], rfl, rfl, rfl, by omega, HS1.out.1, HS1.out.2, HRR.out, .inl ⟨rfl, rfl⟩, R1.out, HOk.nil hb, B1.out⟩
  case round =>
    obtain ⟨k, i, S', last, acc, rfl, rfl, hi, hik, hk2, hs2, hd, hla, hg, ho, bb⟩ := hrel
    have HD := Lib.hid hd
    have HI := Lib.hid hi
    have HG := Lib.hid hg
    have HO := Lib.hid ho
    have HLA := Lib.hid hla
    have BB := Lib.hid bb
    clear hd hg ho bb hi hla
    cases k with
    | zero =>
      have t2 : ¬ (i : Int) < (m : Int) := by omega
      go_wp2
      go_ret3
      obtain ⟨G, hh, hG⟩ := HG.out.hist
      exact .inr ⟨acc, S', p, G, by rw [HD.out]; rfl, rfl, hh, HO.out, fun g h => by rw [← HP.out]; exact hG g h, BB.out⟩
    | succ k =>
      have t2 : (i : Int) < (m : Int) := by omega
      have e2 := Lib.extract_data S' 0 4
      have e3 := Lib.extract_data S' 4 10
      have n1 := num_two S'.data.toList 4
      have n2 := num_two (S'.data.toList.drop 4) 6
      obtain ⟨a, ha⟩ : ∃ a, a = itAt S'.data.toList := ⟨_, rfl⟩
      obtain ⟨q, hq⟩ : ∃ q, q = itMany S'.data.toList := ⟨_, rfl⟩
      obtain ⟨z, hz⟩ : ∃ z, z = num (S'.data.toList.take 4) := ⟨_, rfl⟩
      have K1 := Lib.hid (show ∀ u : World, Calls Try.prog 49 #[.string (S'.extract 0 4)] u fun e w' => e = .returned (.int .u64 z) ∧ u = w' from fun u => by
        have := rNumber_any (S'.extract 0 4) u (by rw [ext_size _ _ _ (by omega) (by omega)]; omega)
        rw [e2, List.drop_zero, Nat.sub_zero, ← hz] at this
        exact this)
      have K2 := Lib.hid (show ∀ u : World, Calls Try.prog 49 #[.string (S'.extract 4 10)] u fun e w' => e = .returned (.int .u64 q) ∧ u = w' from fun u => by
        have := rNumber_any (S'.extract 4 10) u (by rw [ext_size _ _ _ (by omega) (by omega)]; omega)
        rw [e3, show 10 - 4 = 6 by omega] at this
        rw [hq]
        exact this)
      have hza : (z : Int) - 2147483648 = a := by rw [ha, hz]; rfl
      rw [← hz] at n1
      have hz4 : z < 4294967296 := by omega
      have s1 : IntKind.i64.wrap (z : Int) = (z : Int) := by rw [IntKind.wrap_i64]; omega
      have HZA := Lib.hid hza
      have HA := Lib.hid ha
      have HQ := Lib.hid hq
      have hq6 : q < 281474976710656 := by rw [hq]; exact n2
      have ha4 : -2147483648 ≤ a ∧ a < 2147483648 := by omega
      have g4 : (4 : Int) ≤ (S'.size : Int) := by omega
      have g10 : (10 : Int) ≤ (S'.size : Int) := by omega
      clear e2 e3 n1 n2 ha hq hz hza
      go_wp2_with fail
      refine (K1.out wr).mono ?_
      rintro e w3 ⟨rfl, rfl⟩
      go_wp2_with fail
      refine (K2.out wr).mono ?_
      rintro e w3 ⟨rfl, rfl⟩
      rw [HZA.out]
      obtain ⟨v0, hc0, hown0⟩ := HG.out.ex
      have p0 : wr.cell? ⟨p, 0, none⟩ = some (.int .i64 b) := by simp [World.cell?, hc0]
      have OW := Lib.hid hown0
      have HC := Lib.hid hc0
      obtain ⟨lo, hlo⟩ : ∃ lo : Int × Int, lo = if -(mostN b : Int) - 1 ≤ a ∧ a ≤ mostN b then (loZ b a, hiZ b a) else (0, 0) := ⟨_, rfl⟩
      obtain ⟨ok, hok⟩ : ∃ ok : Bool, ok = decide (-(mostN b : Int) - 1 ≤ a ∧ a ≤ mostN b) := ⟨_, rfl⟩
      have KB := Lib.hid (show Calls Try.prog 72 #[.int .i64 b, .int .i64 a] wr fun e w' => e = .returned (.tuple #[.int .i64 lo.1, .int .i64 lo.2, .bool ok]) ∧ Below wr.heap.size wr w' by
        by_cases hh : -(mostN b : Int) - 1 ≤ a ∧ a ≤ mostN b
        · rw [hlo, hok, if_pos hh, decide_eq_true hh]
          exact rBounds_yes b hb a hh.1 hh.2 wr
        · rw [hlo, hok, if_neg hh, decide_eq_false hh]
          exact rBounds_no b hb a hh (by unfold I64; omega) wr)
      have hTT := HO.out.total
      obtain ⟨T, hT⟩ : ∃ T, T = total acc := ⟨_, rfl⟩
      rw [← hT] at hTT
      have EOK := Lib.hid (show itOk b S'.data.toList last acc = (ok && decide (q ≠ 0) && decide (last < a) && decide (q ≤ 1099511627776 - T)) by rw [hok, hT, HA.out, HQ.out]; rfl)
      have EST := Lib.hid (show itOk b S'.data.toList last acc = true → (1 ≤ q ∧ -(mostN b : Int) - 1 ≤ a ∧ a ≤ mostN b ∧ last < a ∧ total acc + q ≤ 1099511627776) from fun h => by
        rw [EOK.out, hok] at h
        simp only [Bool.and_eq_true, decide_eq_true_eq] at h
        omega)
      have HOK := Lib.hid hok
      have HT := Lib.hid hT
      clear hlo hok hT hc0 hown0 K1 K2 s1
      go_wp2_with fail
      refine KB.out.mono ?_
      rintro e w3 ⟨rfl, b3⟩
      have B3 := Lib.hid b3
      have G3 := Lib.hid (HG.out.mono b3)
      clear KB b3 p0 OW HC
      have BE := Lib.hid (BB.out.trans (B3.out.mono BB.out.size))
      cases ok with
      | false =>
        have EN := Lib.hid (show RES = none by rw [HD.out, decI, if_neg (by rw [EOK.out]; simp)])
        go_wp2
        go_ret3
        exact .inl ⟨EN.out, rfl, BE.out⟩
      | true =>
        by_cases hq0 : q = 0
        · have r1 : (((q : Nat) : Int) == 0) = true := by rw [beq_iff_eq]; omega
          have EN := Lib.hid (show RES = none by rw [HD.out, decI, if_neg (by rw [EOK.out, hq0]; simp)])
          clear hq0
          go_wp2
          go_ret3
          exact .inl ⟨EN.out, rfl, BE.out⟩
        have r1 : (((q : Nat) : Int) == 0) = false := by rw [beq_eq_false_iff_ne]; omega
        obtain ⟨v0, hc0, own0⟩ := G3.out.ex
        obtain ⟨R0, row0, hg0⟩ := Row.ofOwns own0
        obtain ⟨av, cp, rfl, hacp, _⟩ := row0.form
        rw [← HI.out] at hc0 own0 row0 hacp
        have c1 : w3.cell? ⟨p, 1, none⟩ = some (.slice av i cp) := cell_of hc0 1 _ rfl
        have ROW := Lib.hid row0
        have OW := Lib.hid own0
        have HC := Lib.hid hc0
        have HQ0 := Lib.hid hq0
        clear hc0 own0 row0 hg0 hq0
        by_cases hla : last < a
        rotate_left
        · have EN := Lib.hid (show RES = none by rw [HD.out, decI, if_neg (by rw [EOK.out]; simp [hla])])
          cases i with
          | zero =>
            exfalso
            have : acc = [] := List.length_eq_zero_iff.1 HI.out.symm
            rcases HLA.out with ⟨_, h⟩ | ⟨r, x, h, _⟩
            · omega
            · rw [this] at h; simp at h
          | succ i =>
            obtain ⟨x, hx, hxl⟩ := HLA.out.at i HI.out.symm
            obtain ⟨g, off, cap', e1, _, _, _, hc⟩ := ROW.out.there (by omega)
            cases e1
            have y0 := (hc _ _ (flat_get acc i x hx).1).1
            rw [hxl] at y0
            have r2 : (0 : Int) < ((i + 1 : Nat) : Int) := by omega
            have r3 : ((i + 1 : Nat) : Int) - 1 = (i : Int) := by omega
            have r4 : decide (a ≤ last) = true := by simp; omega
            clear hc hx hla
            go_wp2
            go_ret3
            exact .inl ⟨EN.out, rfl, BE.out⟩
        have hpw : p < w3.heap.size := heap_lt HC.out
        have OW2 := Lib.hid (OW.out.alloc (.cells #[.int .i64 a, .int .u64 q] 111))
        have A2 : ∀ ad, (some ⟨w3.heap.size, 0, none⟩ : Option Addr) = some ad → ∀ j u, [Value.int .i64 a, .int .u64 q][j]? = some u → (w3.alloc (.cells #[.int .i64 a, .int .u64 q] 111)).cell? (ad.add j) = some u := fun ad e j y hy => by cases e; exact two_new _ _ _ _ j y hy
        have A3 : ∀ u ∈ [Value.int .i64 a, .int .u64 q], u.oneCell' = true := fun u hu => by simp at hu; rcases hu with rfl | rfl <;> rfl
        have A4 : i + 1 ≤ maxLen := by unfold maxLen; omega
        have A5 : (i + 1) * 16 ≤ 140737488355328 := by omega
        have A6 : p + 1 ≤ (w3.alloc (.cells #[.int .i64 a, .int .u64 q] 111)).heap.size := by simp; omega
        have HQP : ¬ q = 0 := HQ0.out
        have HLL := Lib.hid hla
        clear hla HQP
        by_cases hi0' : i = 0
        case' pos =>
          have r2 : decide ((0 : Int) < (i : Int)) = false := by simp; omega
          have r22 : decide (0 < i) = false := by simp; omega
          have r23 : ¬ 0 < i := by omega
          have HI0 := Lib.hid hi0'
          clear hi0'
          go_wp2_with (at_builtin; refine append_any _ rfl _ _ 107 rfl (p + 1) 111 i0 (.agg #[.int .i64 0, .int .u64 0]) 2 16 Try.underlying107 hi0 hz0 hz1 hz2 rfl (by decide) _ i (flat acc) rfl OW2.out (some ⟨w3.heap.size, 0, none⟩) 1 1 [.int .i64 a, .int .u64 q] rfl (fun e => nomatch e) rfl A2 A3 A4 A5 A6 ?_)
        case' neg =>
          obtain ⟨i', hi'⟩ : ∃ i', i = i' + 1 := ⟨i - 1, by omega⟩
          obtain ⟨x, hx, hxl⟩ := HLA.out.at i' (by rw [← HI.out, hi'])
          obtain ⟨g, off, cap', e1, _, _, _, hc⟩ := ROW.out.there (by omega)
          injection e1 with e1 _ e2
          subst e2
          have E1 := Lib.hid e1
          rw [e1] at c1 OW2
          have y0 := (hc _ _ (flat_get acc i' x hx).1).1
          rw [hxl] at y0
          have r2 : decide ((0 : Int) < (i : Int)) = true := by simp; omega
          have r3 : (i : Int) - 1 = (i' : Int) := by omega
          have r4 : decide (a ≤ last) = false := by have := HLL.out; simp; omega
          have r5 : (i' : Int) < (i : Int) := by omega
          have r6 : wrap64 ((i : Int) - 1) = (i' : Int) := by unfold wrap64; omega
          have r7 : i' < i := by omega
          have HI0 := Lib.hid hi'
          clear hc hx hi' e1 hi0'
          go_wp2_with (at_builtin; refine append_any _ rfl _ _ 107 rfl (p + 1) 111 i0 (.agg #[.int .i64 0, .int .u64 0]) 2 16 Try.underlying107 hi0 hz0 hz1 hz2 rfl (by decide) _ i (flat acc) rfl OW2.out (some ⟨w3.heap.size, 0, none⟩) 1 1 [.int .i64 a, .int .u64 q] rfl (fun e => nomatch e) rfl A2 A3 A4 A5 A6 ?_)
        all_goals
          intro v4 w4 o4 b4
          have HP4 := Lib.hid ((b4.block p (by omega)).trans (((Below.refl w3.heap.size w3).alloc (Nat.le_refl _) (.cells #[.int .i64 a, .int .u64 q] 111)).block p hpw |>.trans HC.out))
          have f1 : w4.frozen? ⟨p, 1, none⟩ = false := by simp [World.frozen?, HP4.out]
          have c9 := cell_of HP4.out 1 _ rfl
          obtain ⟨M, hM⟩ : ∃ M, M = moreL acc a q := ⟨_, rfl⟩
          have EM : M = acc ++ [(a, q)] := by
            rw [hM]
            exact moreL_end acc a q fun y hy => by have := HLA.out.le HO.out.rise y hy; have := HLL.out; omega
          have EL : M.length = i + 1 := by rw [EM, List.length_append, ← HI.out]; rfl
          have o5 : w4.ownsRow (p + 1) 111 2 v4 M.length (flat M) := by rw [EL, EM, flat_append]; exact o4
          obtain ⟨G5, r5, g5⟩ := Row.ofOwns o5
          obtain ⟨a4, c4, rfl, _, _⟩ := r5.form
          have hpB : w.heap.size ≤ p := Nat.le_of_eq HP.out.symm
          have B4 := Lib.hid (show Below w.heap.size w w4 from (BE.out.alloc BE.out.size _).trans (b4.mono (by omega)))
          have O5 := Lib.hid o5
          have ET := Lib.hid (show total M = T + q by rw [hM, total_moreL, HT.out])
          have ELM := Lib.hid EL
          have HMM := Lib.hid hM
          have EMM := Lib.hid EM
          clear o4 b4 c1 r5 g5 o5 hM EM EL A2 A3 A4 A5 A6 OW2 OW ROW r1 hacp
          go_wp2_with fail
          obtain ⟨w5, hw5⟩ : ∃ w5, w5 = w4.setCell ⟨p, 1, none⟩ (.slice a4 M.length c4) := ⟨_, rfl⟩
          rw [← hw5]
          have RG5 := Lib.hid (show RGot w5 p b M from ⟨_, by rw [hw5]; exact set_at HP4.out 1 _, owns_same O5.out fun g h1 _ => by rw [hw5]; exact Below.heap_setCell w4 ⟨p, 1, none⟩ _ g (fun e => (by have e' : g = p := e; omega))⟩)
          have B5 := Lib.hid (show Below w.heap.size w w5 from B4.out.trans (by rw [hw5]; exact (Chg.set w4 p 1 _).below (fun k e => (by have e' : k = p := e; omega)) B4.out.size))
          obtain ⟨G5, h5, g5⟩ := RG5.out.hist
          have hl5 := HO.out.len
          have KC := Lib.hid (rCount_any h5 (by rw [ELM.out]; have := HI.out; omega) (by rw [ET.out]; omega))
          clear hw5 h5 g5 c9 f1 HP4 hl5
          refine KC.out.mono ?_
          rintro e w6 ⟨rfl, rfl⟩
          clear KC
          rw [ET.out, Int.natCast_add]
          by_cases hq2 : q ≤ 1099511627776 - T
          rotate_left
          · have t5 : decide (1099511627776 < (T : Int) + (q : Int)) = true := by simp; omega
            have EN := Lib.hid (show RES = none by rw [HD.out, decI, if_neg (by rw [EOK.out]; simp [hq2])])
            clear hq2
            go_wp2
            go_ret3
            exact .inl ⟨EN.out, rfl, B5.out⟩
          · have t5 : decide (1099511627776 < (T : Int) + (q : Int)) = false := by simp; omega
            have hit : itOk b S'.data.toList last acc = true := by
              rw [EOK.out]
              have := HQ0.out
              have := HLL.out
              simp
              omega
            have ES := EST.out hit
            have ED := Lib.hid (show RES = decI b k (S'.data.toList.drop 10) a M by
              rw [HD.out, decI, if_pos hit, ← HA.out, ← HQ.out, HMM.out])
            have EO := Lib.hid (show HOk b M by rw [HMM.out]; exact HO.out.more ES.1 ES.2.2.2.2 ⟨ES.2.1, ES.2.2.1⟩)
            have hsz := ext_size S' 10 S'.size (Nat.le_refl _) (by omega)
            have hsl := Lib.extract_to_end S' 10
            obtain ⟨S2, hS2⟩ : ∃ S2, S2 = S'.extract 10 S'.size := ⟨_, rfl⟩
            rw [← hS2] at hsz hsl ⊢
            rw [← hsl] at ED
            clear hit ES hsl hS2 hq2
            go_wp2
            go_roundw
            case rel => exact ⟨k, i + 1, S2, a, M, rfl, by go_num, ELM.out.symm, by omega, by omega, by omega, ED.out, by rw [EMM.out]; exact LastIs.snoc _ _ _, RG5.out, EO.out, B5.out⟩
            case measure => simp [intOf]; omega
/-- What Get answers. -/
def RGetAns (w : World) (s : ByteArray) (e : Ending) (w' : World) : Prop :=
  (decL s.data.toList = none ∧ e = .returned (.tuple #[.pointer none, .string ⟨#[]⟩, .int .i64 2]) ∧ Below w.heap.size w w') ∨
  ∃ (b : Nat) (l : IL) (r : ByteArray) (p : Nat) (G : List Nat), decL s.data.toList = some (b, l, r.data.toList) ∧ e = .returned (.tuple #[.pointer (some ⟨p, 0, none⟩), .string r, .int .i64 0]) ∧ RHistAt w' p G b l ∧ HOk b l ∧ (∀ g ∈ G, w.heap.size ≤ g) ∧ Below w.heap.size w w'
set_option maxHeartbeats 1000000 in
set_option maxRecDepth 20000 in
theorem rGet_short (s : ByteArray) (w : World) (h : s.size < 3) :
    Calls Try.prog 48 #[.string s] w fun e w' => e = .returned (.tuple #[.pointer none, .string ⟨#[]⟩, .int .i64 2]) ∧ Below w.heap.size w w' := by
  have t0 : decide ((s.size : Int) < 3) = true := by simp; omega
  go_enter Try.func48, Try.ntmps48
  go_wp2
  go_ret3
  exact ⟨rfl, Below.refl _ _⟩
set_option maxHeartbeats 1000000 in
set_option maxRecDepth 20000 in
theorem rGet_bits (s : ByteArray) (w : World) (h : 3 ≤ s.size) (hb : 4 < num (s.data.toList.take 1)) :
    Calls Try.prog 48 #[.string s] w fun e w' => e = .returned (.tuple #[.pointer none, .string ⟨#[]⟩, .int .i64 2]) ∧ Below w.heap.size w w' := by
  have t0 : decide ((s.size : Int) < 3) = false := by simp; omega
  have h3' : (3 : Int) ≤ s.size := by omega
  obtain ⟨b, hb0⟩ : ∃ b, b = num (s.data.toList.take 1) := ⟨_, rfl⟩
  rw [← hb0] at hb
  have e00 : (((s[0]'(by omega)).toNat : Nat) : Int) = (b : Int) := by
    rw [hb0, take_byte s 0 (by omega)]; simp [num]
  have t00 : decide ((4 : Int) < (b : Int)) = true := by simp; omega
  clear hb0
  go_enter Try.func48, Try.ntmps48
  go_wp2
  go_ret3
  exact ⟨rfl, Below.refl _ _⟩
set_option maxHeartbeats 1000000 in
set_option maxRecDepth 20000 in
theorem rGet_lack (s : ByteArray) (w : World) (hs : s.size ≤ 140737488355328) (h : 3 ≤ s.size) (hb : num (s.data.toList.take 1) ≤ 4) (hl : s.size < 3 + 10 * num ((s.data.toList.drop 1).take 2)) :
    Calls Try.prog 48 #[.string s] w fun e w' => e = .returned (.tuple #[.pointer none, .string ⟨#[]⟩, .int .i64 2]) ∧ Below w.heap.size w w' := by
  have t0 : decide ((s.size : Int) < 3) = false := by simp; omega
  have h3' : (3 : Int) ≤ s.size := by omega
  obtain ⟨b, hb0⟩ : ∃ b, b = num (s.data.toList.take 1) := ⟨_, rfl⟩
  rw [← hb0] at hb
  have eb : num (s.data.toList.take 1) = (s[0]'(by omega)).toNat := by
    rw [take_byte s 0 (by omega)]; simp [num]
  have e0 : wrap64 (((s[0]'(by omega)).toNat : Nat) : Int) = (b : Int) := by
    rw [hb0, eb]; unfold wrap64; have := (s[0]'(by omega)).toNat_lt; omega
  have e00 : (((s[0]'(by omega)).toNat : Nat) : Int) = (b : Int) := by rw [hb0, eb]
  have t00 : decide ((4 : Int) < (b : Int)) = false := by simp; omega
  have e1 : (s.extract 1 3).data.toList = (s.data.toList.drop 1).take 2 := by rw [Lib.extract_data]
  have KG := Lib.hid (fun u : World => rNumber_any (s.extract 1 3) u (by rw [ext_size _ _ _ (by omega) (by omega)]; omega))
  have hq2 := num_two (s.data.toList.drop 1) 2
  rw [e1] at KG
  obtain ⟨q, hq⟩ : ∃ q, q = num ((s.data.toList.drop 1).take 2) := ⟨_, rfl⟩
  rw [← hq] at hl hq2 KG
  clear hb0 eb hq e1
  go_enter Try.func48, Try.ntmps48
  go_wp2_with fail
  refine (rNew_yes b w hb).mono ?_
  rintro e w1 ⟨rfl, _, b1⟩
  have B1 := Lib.hid b1
  clear b1
  go_wp2_with fail
  refine (KG.out w1).mono ?_
  rintro e w2 ⟨rfl, rfl⟩
  have hq3 : q < 65536 := by omega
  have t1 : decide (((s.size - 3 : Nat) : Int) < 10 * (q : Int)) = true := by simp; omega
  clear e0 e00 t00 KG hl hq2
  go_wp2
  go_ret3
  exact ⟨rfl, B1.out⟩
theorem rGet_any (s : ByteArray) (w : World) (hs : s.size ≤ 140737488355328) : Calls Try.prog 48 #[.string s] w (RGetAns w s) := by
  have hll : s.data.toList.length = s.size := by rw [Array.length_toList]; rfl
  by_cases h : s.size < 3
  · exact (rGet_short s w h).mono fun e w' hh => .inl ⟨by unfold decL; rw [hll, if_pos h], hh⟩
  by_cases hb : 4 < num (s.data.toList.take 1)
  · exact (rGet_bits s w (by omega) hb).mono fun e w' hh => .inl ⟨by unfold decL; rw [hll, if_neg h, if_pos hb], hh⟩
  by_cases hl : s.size < 3 + 10 * num ((s.data.toList.drop 1).take 2)
  · exact (rGet_lack s w hs (by omega) (by omega) hl).mono fun e w' hh => .inl ⟨by unfold decL; rw [hll, if_neg h, if_neg hb, if_pos hl], hh⟩
  · refine (rGet_walk s w hs _ (by omega) (by omega) rfl (by omega)).mono fun e w' hh => ?_
    have ed : decL s.data.toList = (decI (num (s.data.toList.take 1)) (num ((s.data.toList.drop 1).take 2)) (s.data.toList.drop 3) (-2147483649) []).map fun x => (num (s.data.toList.take 1), x) := by
      unfold decL; rw [hll, if_neg h, if_neg hb, if_neg hl]
    rcases hh with ⟨h1, h2⟩ | ⟨l, r, p, G, h1, h2⟩
    · exact .inl ⟨by rw [ed, h1]; rfl, h2⟩
    · exact .inr ⟨_, l, r, p, G, by rw [ed, h1]; rfl, h2⟩
end Go.Proofs.Ytgafnilcmhjpcaa.HHist
