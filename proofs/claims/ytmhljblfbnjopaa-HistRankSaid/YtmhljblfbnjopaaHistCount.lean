/- HistCount: the law, walked. -/
import Derived.Test.YtmhljblfbnjopaaHistRankP
import Derived.Test.YtmhljblfbnjopaaApp
namespace Go.Proofs.Ytmhljblfbnjopaa.HHist
set_option linter.unusedVariables false
open Go.RowKit Go.Proofs.Ytmhljblfbnjopaa.HMem Go.Proofs.Ytmhljblfbnjopaa.HBucket Go.Proofs.Ytmhljblfbnjopaa.HApp
open Go.Proofs.Ytmhljblfbnjopaa.Print (I64)

theorem u_of (b : Nat) (hb : b ≤ 4) (n : Int) (hn : I64 n) (w : World) :
    Calls Try.prog 20 #[.int .i64 b, .int .i64 n] w fun e w' => e = .returned (.tuple #[.int .i64 (ofZ b n), .bool true]) ∧ Below w.heap.size w w' := by
  have K := Of_yes b n w (by omega) (by omega) hn.1 hn.2
  rw [Int.toNat_natCast, ofZ_def] at K
  exact K
theorem near_any (b : Nat) (hb : b ≤ 4) (m n : Int) (hm : I64 m) (hn : I64 n) (w : World) :
    Calls Try.prog 23 #[.int .i64 b, .int .i64 m, .int .i64 n] w fun e w' => e = .returned (.bool (decide (ofZ b m = ofZ b n))) ∧ Below w.heap.size w w' := by
  go_enter Try.func23, Try.ntmps23
  go_wp2_with fail
  refine (u_of b hb m hm _).mono ?_
  rintro e w1 ⟨rfl, b1⟩
  have B1 := Lib.hid b1
  clear b1
  go_wp2_with fail
  refine (u_of b hb n hn _).mono ?_
  rintro e w2 ⟨rfl, b2⟩
  have B2 := Lib.hid (B1.out.trans (b2.mono B1.out.size))
  clear b2
  go_wp2
  go_ret
  exact ⟨congrArg (fun t => Ending.returned (.bool t)) (by rw [Bool.eq_iff_iff]; simp), B2.out⟩
/-- How much there is of a bucket. -/
def sumL : IL → Int → Nat
  | [], _ => 0
  | x :: r, a => (if x.1 = a then x.2 else 0) + sumL r a
def cntL (b : Nat) (a : Int) : List Int → Nat
  | [] => 0
  | x :: r => (if ofZ b x = a then 1 else 0) + cntL b a r
theorem sumL_more : ∀ (l : IL) (c : Int) (m : Nat) (a : Int), sumL (moreL l c m) a = sumL l a + (if c = a then m else 0)
  | [], c, m, a => by simp [moreL, sumL]
  | x :: r, c, m, a => by
    unfold moreL
    split
    · rename_i h
      show (if x.1 = a then x.2 else 0) + sumL (moreL r c m) a = (if x.1 = a then x.2 else 0) + sumL r a + _
      rw [sumL_more r]; omega
    · split
      · rename_i h1 h2
        show (if c = a then x.2 + m else 0) + sumL r a = (if x.1 = a then x.2 else 0) + sumL r a + _
        rw [h2]
        split <;> omega
      · show (if c = a then m else 0) + sumL (x :: r) a = _
        omega
theorem sumL_fold (b : Nat) (a : Int) : ∀ (ns : List Int) (l : IL), sumL (ns.foldl (fun l n => moreL l (ofZ b n) 1) l) a = sumL l a + cntL b a ns
  | [], l => rfl
  | n :: r, l => by
    rw [List.foldl_cons, sumL_fold b a r, sumL_more]
    show _ = sumL l a + ((if ofZ b n = a then 1 else 0) + cntL b a r)
    omega
theorem sumL_of (b : Nat) (a : Int) (ns : List Int) : sumL (ofL b ns) a = cntL b a ns := by
  have := sumL_fold b a ns []
  simpa [ofL, sumL] using this
theorem cntL_append (b : Nat) (a : Int) : ∀ (l m : List Int), cntL b a (l ++ m) = cntL b a l + cntL b a m
  | [], m => by simp [cntL]
  | x :: r, m => by
    show _ + cntL b a (r ++ m) = _ + cntL b a r + cntL b a m
    rw [cntL_append b a r m]; omega
theorem cntL_le (b : Nat) (a : Int) : ∀ l : List Int, cntL b a l ≤ l.length
  | [] => Nat.le_refl _
  | x :: r => by
    have := cntL_le b a r
    show (if ofZ b x = a then 1 else 0) + cntL b a r ≤ r.length + 1
    split <;> omega
theorem sumL_append (a : Int) : ∀ (l m : IL), sumL (l ++ m) a = sumL l a + sumL m a
  | [], m => by simp [sumL]
  | x :: r, m => by
    show _ + sumL (r ++ m) a = _ + sumL r a + sumL m a
    rw [sumL_append a r m]; omega
theorem sumL_low : ∀ (l : IL) (a : Int), (∀ y ∈ l, y.1 < a) → sumL l a = 0
  | [], a, h => rfl
  | x :: r, a, h => by
    show (if x.1 = a then x.2 else 0) + sumL r a = 0
    rw [if_neg (by have := h x (by simp); omega), sumL_low r a (fun y hy => h y (by simp [hy]))]
theorem sumL_step (l : IL) (hr : Rise l) (a : Int) (j : Nat) (x : Int × Nat) (hx : l[j]? = some x) : sumL (l.take (j + 1)) a = if x.1 = a then x.2 else sumL (l.take j) a := by
  have hj := (List.getElem?_eq_some_iff.1 hx).1
  rw [List.take_add_one, hx]
  show sumL (l.take j ++ [x]) a = _
  rw [sumL_append]
  by_cases e : x.1 = a
  · rw [if_pos e, sumL_low]
    · simp [sumL, e]
    · intro y hy
      obtain ⟨i, hi, rfl⟩ := List.getElem_of_mem hy
      rw [List.length_take] at hi
      have := List.pairwise_iff_getElem.1 hr i j (by omega) hj (by omega)
      rw [List.getElem_take, ← e]
      have hx' : l[j] = x := Option.some.inj ((List.getElem?_eq_getElem hj).symm.trans hx)
      rw [← hx']
      exact this
  · rw [if_neg e]; simp [sumL, e]

theorem Zs_nrow {e : TypeId} {k : IntKind} {B : Nat} {w : World} {v : Value} {l : List Int} (h : Zs e k B w v l) : NRow k w v l := by
  obtain ⟨a, c, rfl, h1, h2, h3, h4⟩ := h.form
  cases a with
  | none =>
    obtain ⟨h0, rfl⟩ := h3 rfl
    rw [h0]
    exact .inl ⟨rfl, List.length_eq_zero_iff.1 h0⟩
  | some ad =>
    refine .inr ⟨ad, c, rfl, h1, h2, fun i x hx => ?_⟩
    obtain ⟨a', e, h⟩ := h4 i x hx
    cases e
    exact h
theorem infoI2 : (Try.prog.info? 2).map (fun i => (i.zero, i.size, i.bytes)) = some (some (.int .i64 0), 1, 8) := by kernel_rfl


set_option maxRecDepth 20000 in
set_option maxHeartbeats 4000000 in
theorem HistCount_any (b0 : Nat) (hb0 : b0 < 256) (v : Value) (ns : List Int) (x0 : Int) (hx0 : -128 ≤ x0 ∧ x0 ≤ 127) (w : World) (hv : NRow .i8 w v ns) (hi : ∀ x ∈ ns, -128 ≤ x ∧ x ≤ 127) :
    Calls Try.prog 7 #[.int .u8 b0, v, .int .i8 x0] w fun e w' => e = .returned (.bool true) ∧ Below w.heap.size w w' := by
  obtain ⟨i0, hi0, hz0, hz1, hz2⟩ : ∃ i, Try.prog.info? 2 = some i ∧ i.zero = some (.int .i64 0) ∧ i.size = 1 ∧ i.bytes = 8 := by
    have := infoI2
    cases h : Try.prog.info? 2 with
    | none => rw [h] at this; cases this
    | some i => rw [h] at this; simp at this; exact ⟨i, rfl, this.1, this.2.1, this.2.2⟩
  have hX0 : I64 x0 := by unfold I64; omega
  go_enter Try.func7, Try.ntmps7
  go_wp2_with fail
  refine (examples_any _).mono ?_
  rintro e w1 ⟨rfl, b1⟩
  have B1 := Lib.hid b1
  have V1 := Lib.hid (hv.mono b1)
  clear b1
  obtain ⟨a, cp, rfl, hcap, hmax, _⟩ := hv.form
  clear hv
  obtain ⟨n, hn⟩ : ∃ n, n = ns.length := ⟨_, rfl⟩
  have HN := Lib.hid hn
  rw [← hn] at hcap V1 ⊢
  clear hn
  obtain ⟨b, hb⟩ : ∃ b, b = b0 % 5 := ⟨_, rfl⟩
  have hb4 : b ≤ 4 := by omega
  have eb : (b0 : Int) % 5 = (b : Int) := by omega
  clear hb
  go_wp2_with fail
  refine (u_of b hb4 x0 hX0 _).mono ?_
  rintro e w2 ⟨rfl, b2⟩
  have B2 := Lib.hid (bt B1.out (Nat.le_refl _) b2)
  have V2 := Lib.hid (V1.out.mono b2)
  obtain ⟨at_, hat⟩ : ∃ a, a = ofZ b x0 := ⟨_, rfl⟩
  have HAT := Lib.hid hat
  rw [← hat]
  clear b2 V1 hat
  go_wp2_with fail
  obtain ⟨B, hB⟩ : ∃ B, B = w2.heap.size := ⟨_, rfl⟩
  have HBw := Lib.hid hB
  have C2 := Lib.hid (show ∀ (u : World), Below B w2 u → ∀ (i : Nat) (x : Int), ns[i]? = some x → ∃ a', a = some a' ∧ u.cell? (a'.add i) = some (Value.int IntKind.i8 x) from fun u hu i x hx => by
    cases a with
    | none =>
      have := (V2.out.none rfl).1
      have := (List.getElem?_eq_some_iff.1 hx).1
      have := V2.out.cells.1
      omega
    | some ad =>
      have h := V2.out.cells.2 ad rfl i x hx
      rw [hB] at hu
      exact ⟨ad, rfl, (hu.cell (World.block_lt_of_cell? _ _ h)).trans h⟩)
  clear hB V2
  go_loopw [9, 10, 13] (fun x y z wr => ∃ (v : Value) (j : Nat), v = x ∧ y = .int .u64 (cntL b at_ (ns.take j) : Nat) ∧ z = .int .i64 j ∧ j ≤ n ∧ j ≤ 60 ∧ Zs 2 .i64 B wr v (ns.take j) ∧ Below B w2 wr) (fun _ _ z _ => 60 - (intOf z).toNat)
  case atStart => exact ⟨_, 0, rfl, rfl, rfl, Nat.zero_le _, Nat.zero_le _, Zs.nil _ _ _ _, Below.refl _ _⟩
  case round =>
    obtain ⟨v, j, rfl, rfl, rfl, hj, hj60, zz, bb⟩ := hrel
    have ZZ := Lib.hid zz
    have BB := Lib.hid bb
    obtain ⟨M, hM⟩ : ∃ M, M = cntL b at_ (ns.take j) := ⟨_, rfl⟩
    have hMj : M ≤ 60 := by
      rw [hM]
      have := cntL_le b at_ (ns.take j)
      rw [List.length_take] at this
      omega
    rw [← hM]
    have HM := Lib.hid hM
    clear zz bb hM
    by_cases hlt : j < n ∧ j < 60
    · have hj1 : (j : Int) < n := by omega
      have hj2 : (j : Int) < 60 := by omega
      obtain ⟨x, hx⟩ : ∃ x, ns[j]? = some x := ⟨_, List.getElem?_eq_getElem (by rw [← HN.out]; exact hlt.1)⟩
      obtain ⟨a', rfl, c0⟩ := C2.out _ BB.out j x hx
      have hx8 := hi x (List.mem_of_getElem? hx)
      have hX : I64 x := by unfold I64; omega
      have ET := Lib.hid (show ns.take (j + 1) = ns.take j ++ [x] by rw [List.take_add_one, hx]; rfl)
      have HX := Lib.hid hx
      have hlen : (ns.take j).length = j := by rw [List.length_take]; have := HN.out; omega
      have hlt' := Lib.hid hlt
      clear hx hlt
      have OWN := Lib.hid (show (wr.alloc (.cells #[.int .i64 x] 2)).ownsRow B 2 1 v j (vz .i64 (ns.take j)) by
        have := ZZ.out.mono ((Below.refl wr.heap.size wr).alloc (Nat.le_refl _) (.cells #[.int .i64 x] 2))
        unfold Zs at this
        rw [hlen] at this
        exact this)
      go_wp2_with (at_builtin; refine append_any _ rfl _ _ 22 rfl B 2 i0 (.int .i64 0) 1 8 Try.underlying22 hi0 hz0 hz1 hz2 rfl (by decide) _ j (vz .i64 (ns.take j)) rfl OWN.out (some ⟨wr.heap.size, 0, none⟩) 1 1 [.int .i64 x] rfl ?c0 rfl ?c2 ?c3 ?c4 ?c5 ?c6 ?_)
      case c0 => intro h; cases h
      case c2 => intro ad h; cases h; exact cell_one_new _ _ _
      case c3 => intro u hu; simp at hu; subst hu; rfl
      case c4 => unfold maxLen; omega
      case c5 => omega
      case c6 => exact Nat.le_trans (show B ≤ wr.heap.size by have h1 := BB.out.size; have h2 := HBw.out; omega) (by simp)
      intro v3 w3 o3 b3
      have B3 := Lib.hid (show Below B w2 w3 from ((BB.out.alloc (by have h1 := BB.out.size; have h2 := HBw.out; omega) _)).trans b3)
      have Z3 := Lib.hid (show Zs 2 .i64 B w3 v3 (ns.take (j + 1)) by
        unfold Zs
        rw [ET.out, List.length_append, hlen, vz_append]
        exact o3)
      clear o3 b3 c0 OWN
      obtain ⟨a'', e'', c3⟩ := C2.out _ B3.out j x HX.out
      cases e''
      go_wp2_with fail
      have NE := near_any b hb4 x x0 hX hX0 w3
      by_cases hq : ofZ b x = ofZ b x0
      · rw [decide_eq_true hq] at NE
        refine NE.mono ?_
        rintro e w4 ⟨rfl, b4⟩
        have B4 := Lib.hid (bt B3.out (by rw [HBw.out]; exact Nat.le_refl _) b4)
        have Z4 := Lib.hid (Z3.out.mono b4)
        have EM := Lib.hid (show ((cntL b at_ (ns.take (j + 1)) : Nat) : Int) = (M : Int) + 1 by
          rw [ET.out, cntL_append, ← HM.out]; simp [cntL, hq, HAT.out])
        clear b4 NE c3 hq
        go_wp2
        go_roundw
        case rel => exact ⟨v3, j + 1, rfl, by rw [EM.out], by go_num, hlt'.out.1, hlt'.out.2, Z4.out, B4.out⟩
        case measure => have := hlt'.out; simp [intOf]; omega
      · rw [decide_eq_false hq] at NE
        refine NE.mono ?_
        rintro e w4 ⟨rfl, b4⟩
        have B4 := Lib.hid (bt B3.out (by rw [HBw.out]; exact Nat.le_refl _) b4)
        have Z4 := Lib.hid (Z3.out.mono b4)
        have EM := Lib.hid (show ((cntL b at_ (ns.take (j + 1)) : Nat) : Int) = (M : Int) by
          rw [ET.out, cntL_append, ← HM.out]; simp [cntL, hq, HAT.out])
        clear b4 NE c3 hq
        go_wp2
        go_roundw
        case rel => exact ⟨v3, j + 1, rfl, by rw [EM.out], by go_num, hlt'.out.1, hlt'.out.2, Z4.out, B4.out⟩
        case measure => have := hlt'.out; simp [intOf]; omega
    · by_cases h1 : j < n
      · have g1 : (j : Int) < n := by omega
        have g2 : ¬ (j : Int) < 60 := by omega
        clear hlt
        obtain ⟨av, cv, rfl, v1, v2, v3, _⟩ := ZZ.out.form
        obtain ⟨al, hal⟩ : ∃ al, al = ns.take j := ⟨_, rfl⟩
        have hIal : ∀ x ∈ al, I64 x := by
          intro x hx
          rw [hal] at hx
          have := hi x (List.mem_of_mem_take hx)
          unfold I64; omega
        rw [← hal] at ZZ v1 v3 HM ⊢
        have hlen : al.length = j := by rw [hal, List.length_take]; have := HN.out; omega
        rw [hlen] at ZZ v1 v3 ⊢
        have HLEN := Lib.hid hlen
        clear hal hlen
        go_wp2_with fail
        have K := of_any b hb4 _ al wr (Zs_nrow ZZ.out) (by have := HLEN.out; omega) hIal
        have hrl := rise_ofL b al
        have htl := total_ofL b al
        have hsl := sumL_of b at_ al
        obtain ⟨l, hl⟩ : ∃ l, l = ofL b al := ⟨_, rfl⟩
        rw [← hl] at K hrl htl hsl
        have HRL := Lib.hid hrl
        have HTL := Lib.hid htl
        have HSL := Lib.hid hsl
        clear hrl htl hsl hl
        refine K.mono ?_
        rintro e w3 ⟨rfl, s3, b3⟩
        obtain ⟨p, hp⟩ : ∃ p, p = wr.heap.size := ⟨_, rfl⟩
        rw [← hp] at s3 b3 ⊢
        have S3 := Lib.hid s3
        have B3 := Lib.hid (show Below w.heap.size w w3 from (B2.out.trans (BB.out.mono (by rw [HBw.out]; exact B2.out.size))).trans (b3.mono (by have h1 := B2.out.size; have h2 := BB.out.size; omega)))
        clear s3 b3 hp K
        go_wp2_with fail
        refine (s_items S3.out).mono ?_
        rintro e w4 ⟨v4, rfl, G4, r4, g4, b4⟩
        obtain ⟨ba, cap, rfl, _⟩ := r4.form
        have S4 := Lib.hid (S3.out.mono b4)
        have B4 := Lib.hid (bt B3.out (Nat.le_refl _) b4)
        have R4 := Lib.hid r4
        obtain ⟨q, hq⟩ : ∃ q, q = l.length := ⟨_, rfl⟩
        rw [← hq] at R4 ⊢
        have HQ := Lib.hid hq
        have hq9 : q ≤ 2113 := by rw [hq]; exact S3.out.ok.len
        clear b4 r4 g4 hq
        go_wp2_with fail
        go_loopw [15, 17] (fun x z wr => ∃ (i : Nat), x = .int .u64 (sumL (l.take i) at_ : Nat) ∧ z = .int .i64 i ∧ i ≤ q ∧ wr = w4) (fun _ z _ => q - (intOf z).toNat)
        case atStart => exact ⟨0, rfl, rfl, Nat.zero_le _, rfl⟩
        case round =>
          obtain ⟨i, rfl, rfl, hi', rfl⟩ := hrel
          rcases Nat.lt_or_ge i q with hlt | hge
          · have hj1 : (i : Int) < q := by omega
            obtain ⟨x, hx⟩ : ∃ x, l[i]? = some x := ⟨_, List.getElem?_eq_getElem (by rw [← HQ.out]; exact hlt)⟩
            obtain ⟨g, off, cap', e1, _, _, _, hc⟩ := R4.out.there (by omega)
            cases e1
            have c0 := (hc _ _ (flat_get l i x hx).1).1
            have c1 := (hc _ _ (flat_get l i x hx).2).1
            rw [← Nat.add_assoc] at c1
            have HST := Lib.hid (sumL_step l HRL.out at_ i x hx)
            have hlt' := Lib.hid hlt
            clear hc hx hlt
            by_cases e : x.1 = at_
            · have ST := Lib.hid (show sumL (l.take (i + 1)) at_ = x.2 by rw [HST.out, if_pos e])
              go_wp2
              go_roundw
              case rel => exact ⟨i + 1, by rw [ST.out], by go_num, hlt'.out, by first | rfl | trivial⟩
              case measure => have := hlt'.out; simp [intOf]; omega
            · have ST := Lib.hid (show sumL (l.take (i + 1)) at_ = sumL (l.take i) at_ by rw [HST.out, if_neg e])
              go_wp2
              go_roundw
              case rel => exact ⟨i + 1, by rw [ST.out], by go_num, hlt'.out, by first | rfl | trivial⟩
              case measure => have := hlt'.out; simp [intOf]; omega
          · have hj1 : ¬ (i : Int) < q := by omega
            have EG := Lib.hid (show sumL (l.take i) at_ = M by
              rw [List.take_of_length_le (by have := HQ.out; omega), HSL.out]; exact HM.out.symm)
            rw [EG.out]
            clear hge
            go_wp2_with fail
            have KC := s_count S4.out
            rw [HTL.out, HLEN.out] at KC
            refine KC.mono ?_
            rintro e w5 ⟨rfl, b5⟩
            have B5 := Lib.hid (bt B4.out (Nat.le_refl _) b5)
            clear b5 KC
            go_wp2
            go_ret
            exact ⟨rfl, B5.out⟩
      · have g1 : ¬ (j : Int) < n := by omega
        clear hlt
        obtain ⟨av, cv, rfl, v1, v2, v3, _⟩ := ZZ.out.form
        obtain ⟨al, hal⟩ : ∃ al, al = ns.take j := ⟨_, rfl⟩
        have hIal : ∀ x ∈ al, I64 x := by
          intro x hx
          rw [hal] at hx
          have := hi x (List.mem_of_mem_take hx)
          unfold I64; omega
        rw [← hal] at ZZ v1 v3 HM ⊢
        have hlen : al.length = j := by rw [hal, List.length_take]; have := HN.out; omega
        rw [hlen] at ZZ v1 v3 ⊢
        have HLEN := Lib.hid hlen
        clear hal hlen
        go_wp2_with fail
        have K := of_any b hb4 _ al wr (Zs_nrow ZZ.out) (by have := HLEN.out; omega) hIal
        have hrl := rise_ofL b al
        have htl := total_ofL b al
        have hsl := sumL_of b at_ al
        obtain ⟨l, hl⟩ : ∃ l, l = ofL b al := ⟨_, rfl⟩
        rw [← hl] at K hrl htl hsl
        have HRL := Lib.hid hrl
        have HTL := Lib.hid htl
        have HSL := Lib.hid hsl
        clear hrl htl hsl hl
        refine K.mono ?_
        rintro e w3 ⟨rfl, s3, b3⟩
        obtain ⟨p, hp⟩ : ∃ p, p = wr.heap.size := ⟨_, rfl⟩
        rw [← hp] at s3 b3 ⊢
        have S3 := Lib.hid s3
        have B3 := Lib.hid (show Below w.heap.size w w3 from (B2.out.trans (BB.out.mono (by rw [HBw.out]; exact B2.out.size))).trans (b3.mono (by have h1 := B2.out.size; have h2 := BB.out.size; omega)))
        clear s3 b3 hp K
        go_wp2_with fail
        refine (s_items S3.out).mono ?_
        rintro e w4 ⟨v4, rfl, G4, r4, g4, b4⟩
        obtain ⟨ba, cap, rfl, _⟩ := r4.form
        have S4 := Lib.hid (S3.out.mono b4)
        have B4 := Lib.hid (bt B3.out (Nat.le_refl _) b4)
        have R4 := Lib.hid r4
        obtain ⟨q, hq⟩ : ∃ q, q = l.length := ⟨_, rfl⟩
        rw [← hq] at R4 ⊢
        have HQ := Lib.hid hq
        have hq9 : q ≤ 2113 := by rw [hq]; exact S3.out.ok.len
        clear b4 r4 g4 hq
        go_wp2_with fail
        go_loopw [15, 17] (fun x z wr => ∃ (i : Nat), x = .int .u64 (sumL (l.take i) at_ : Nat) ∧ z = .int .i64 i ∧ i ≤ q ∧ wr = w4) (fun _ z _ => q - (intOf z).toNat)
        case atStart => exact ⟨0, rfl, rfl, Nat.zero_le _, rfl⟩
        case round =>
          obtain ⟨i, rfl, rfl, hi', rfl⟩ := hrel
          rcases Nat.lt_or_ge i q with hlt | hge
          · have hj1 : (i : Int) < q := by omega
            obtain ⟨x, hx⟩ : ∃ x, l[i]? = some x := ⟨_, List.getElem?_eq_getElem (by rw [← HQ.out]; exact hlt)⟩
            obtain ⟨g, off, cap', e1, _, _, _, hc⟩ := R4.out.there (by omega)
            cases e1
            have c0 := (hc _ _ (flat_get l i x hx).1).1
            have c1 := (hc _ _ (flat_get l i x hx).2).1
            rw [← Nat.add_assoc] at c1
            have HST := Lib.hid (sumL_step l HRL.out at_ i x hx)
            have hlt' := Lib.hid hlt
            clear hc hx hlt
            by_cases e : x.1 = at_
            · have ST := Lib.hid (show sumL (l.take (i + 1)) at_ = x.2 by rw [HST.out, if_pos e])
              go_wp2
              go_roundw
              case rel => exact ⟨i + 1, by rw [ST.out], by go_num, hlt'.out, by first | rfl | trivial⟩
              case measure => have := hlt'.out; simp [intOf]; omega
            · have ST := Lib.hid (show sumL (l.take (i + 1)) at_ = sumL (l.take i) at_ by rw [HST.out, if_neg e])
              go_wp2
              go_roundw
              case rel => exact ⟨i + 1, by rw [ST.out], by go_num, hlt'.out, by first | rfl | trivial⟩
              case measure => have := hlt'.out; simp [intOf]; omega
          · have hj1 : ¬ (i : Int) < q := by omega
            have EG := Lib.hid (show sumL (l.take i) at_ = M by
              rw [List.take_of_length_le (by have := HQ.out; omega), HSL.out]; exact HM.out.symm)
            rw [EG.out]
            clear hge
            go_wp2_with fail
            have KC := s_count S4.out
            rw [HTL.out, HLEN.out] at KC
            refine KC.mono ?_
            rintro e w5 ⟨rfl, b5⟩
            have B5 := Lib.hid (bt B4.out (Nat.le_refl _) b5)
            clear b5 KC
            go_wp2
            go_ret
            exact ⟨rfl, B5.out⟩
theorem HistCount_row {b0 x0 : Int} {v : Value} {ns : List Int} {w : World} (h0 : (Lit.int .u8 b0).wf = true) (hx : (Lit.int .i8 x0).wf = true) (hv : NRow .i8 w v ns) (hi : ∀ x ∈ ns, (Lit.int .i8 x).wf = true) :
    Calls Try.prog 7 #[.int .u8 b0, v, .int .i8 x0] w fun e w' => e = .returned (.bool true) ∧ Below w.heap.size w w' := by
  obtain ⟨b, rfl, hb⟩ := u8_wf h0
  exact HistCount_any b hb v ns x0 (i8_wf hx) w hv (fun x hx => i8_wf (hi x hx))
end Go.Proofs.Ytmhljblfbnjopaa.HHist
