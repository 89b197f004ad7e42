/- Histograms: Put, walked. -/
import Derived.Test.YtgafnilcmhjpcaaHist7
import Derived.Deep.RegionWith
import Derived.Deep.CutBlock
import Derived.Deep.DeepCutAuto
namespace Go.Proofs.Ytgafnilcmhjpcaa.HHist
set_option linter.unusedVariables false
open Go.RowKit Go.Proofs.Ytgafnilcmhjpcaa.HMem Go.Proofs.Ytgafnilcmhjpcaa.HBucket
open Go.Proofs.Ytgafnilcmhjpcaa.Print (I64)

/-- The items' bytes. -/
def encI : IL → List Int
  | [] => []
  | x :: r => be (x.1 + 2147483648).toNat 4 ++ (be x.2 6 ++ encI r)
def encL (b : Nat) (l : IL) : List Int := (b : Int) :: (be l.length 2 ++ encI l)
theorem encI_snoc : ∀ (l : IL) (x : Int × Nat), encI (l ++ [x]) = encI l ++ (be (x.1 + 2147483648).toNat 4 ++ be x.2 6)
  | [], x => by simp [encI]
  | y :: r, x => by simp [encI, encI_snoc r x]
theorem encI_length : ∀ l : IL, (encI l).length = l.length * 10
  | [] => rfl
  | x :: r => by simp [encI, be_length, encI_length r]; omega
theorem encL_length (b : Nat) (l : IL) : (encL b l).length = 3 + l.length * 10 := by simp [encL, be_length, encI_length]; omega

set_option maxHeartbeats 2000000 in
set_option maxRecDepth 20000 in
theorem Put_any {w : World} {p : Nat} {G : List Nat} {b : Nat} {l : IL} (h : HistAt w p G b l) (ho : HOk b l) :
    Calls Try.prog 36 #[.pointer (some ⟨p, 0, none⟩)] w fun e w' => e = .returned (.string (strOfNums (encL b l))) ∧ Below w.heap.size w w' := by
  obtain ⟨c0, c2, v, R, rfl, hpR, c1, hrow⟩ := h.cells
  obtain ⟨ba, cap, rfl, _⟩ := hrow.form
  have HO := Lib.hid ho
  have H := Lib.hid h
  have HR := Lib.hid hrow
  have hb := ho.bits
  have hlen := ho.len
  obtain ⟨n, hn⟩ : ∃ n, n = l.length := ⟨_, rfl⟩
  have HN := Lib.hid hn
  rw [← hn] at c1 hlen HR
  clear ho h hrow hpR hn
  go_enter Try.func36, Try.ntmps36
  go_wp2_with fail
  have K0 := Lib.hid (show ∀ u : World, u.os = w.os ∧ u.tape = w.tape ∧ u.output = w.output ∧ u.heap = (w.alloc (.cells #[.int .u8 b] 5)).heap →
      Calls Try.prog 62 #[.slice (some ⟨w.heap.size, 0, none⟩) 1 1, .int .u64 n, .int .i64 2] u fun e w' => ∃ v', e = .returned v' ∧ (w'.ownsRow w.heap.size 5 1 v' (3 + 0) (vb ((b : Int) :: be n 2)) ∧ Below w.heap.size w w') from fun u ⟨u1, u2, u3, u4⟩ => by
    have B5 : Below w.heap.size w u := ⟨u1, u2, u3, by rw [u4]; simp, fun k hk => by rw [u4]; exact Below.heap_alloc w _ k hk⟩
    refine (put_any u w.heap.size _ [(b : Int)] n 2 ⟨rfl, .inr ⟨w.heap.size, 1, _, rfl, Nat.le_refl _, by rw [u4]; exact heap_alloc_new w _, Nat.le_refl _, by unfold maxLen; omega, rfl, rfl⟩⟩ B5.size (by omega) (by omega) (by simp)).mono ?_
    rintro e w' ⟨v', rfl, o, t'⟩
    exact ⟨v', rfl, o, B5.trans (t'.chg.below (fun g hg => by have := mem_ob.1 hg; simp [Value.ownBlock] at this; omega) B5.size)⟩)
  have c0a : ∀ o, (w.alloc o).cell? ⟨p, 0, none⟩ = some (.int .i64 b) := fun o => ((Below.refl _ _).alloc (Nat.le_refl _) o).cell (World.block_lt_of_cell? _ _ c0) |>.trans c0
  have c1a : ∀ o, (w.alloc o).cell? ⟨p, 1, none⟩ = some (.slice ba n cap) := fun o => ((Below.refl _ _).alloc (Nat.le_refl _) o).cell (World.block_lt_of_cell? _ _ c1) |>.trans c1
  have s1 : IntKind.u8.wrap ((b : Nat) : Int) = ((b : Nat) : Int) := by simp [IntKind.wrap, IntKind.signed, IntKind.bits]; omega
  have s2 : IntKind.u64.wrap ((n : Nat) : Int) = ((n : Nat) : Int) := u64_in _ (by omega) (by omega)
  go_cut [3] (fun v1 w1 => w1.ownsRow w.heap.size 5 1 v1 (3 + 0) (vb ((b : Int) :: be n 2)) ∧ Below w.heap.size w w1)
  case first =>
    go_region_with ((go_at_call 62; refine Calls.mono (K0.out _ ?_) ?_; exact ⟨rfl, rfl, rfl, rfl⟩; rintro e w1 ⟨v1, rfl, o1, b1⟩; have O1 := Lib.hid o1; have B1 := Lib.hid b1; clear o1 b1))
    all_goals
      go_wp2_with fail
      go_meet
      case rel => exact ⟨O1.out, B1.out⟩
  case rest =>
    obtain ⟨o1, b1⟩ := hcut
    have O1 := Lib.hid o1
    have B1 := Lib.hid b1
    have R1 := Lib.hid (HR.out.same (Same.own b1 HR.out.own))
    have d1 := (b1.cell (World.block_lt_of_cell? _ _ c1)).trans c1
    clear o1 b1 K0 c0a c1a c0 c1 c2
    obtain ⟨pre, hpre⟩ : ∃ pre : List Int, pre = (b : Int) :: be n 2 := ⟨_, rfl⟩
    rw [← hpre] at O1
    have HPL := Lib.hid (show pre.length = 3 by rw [hpre]; simp [be_length])
    have HPR := Lib.hid hpre
    clear hpre
    go_wp2_with fail
    go_loopw [3, 24] (fun v x wr => ∃ j : Nat, j ≤ n ∧ x = .int .i64 j ∧ wr.ownsRow w.heap.size 5 1 v (pre ++ encI (l.take j)).length (vb (pre ++ encI (l.take j))) ∧ Row 105 2 wr (.slice ba n cap) n (flat l) R ∧ Below w.heap.size w wr) (fun _ x _ => n - (intOf x).toNat)
    case atStart => exact ⟨0, Nat.zero_le _, rfl, by simp only [List.take_zero, encI, List.append_nil, HPL.out]; exact O1.out, R1.out, B1.out⟩
    case round =>
      obtain ⟨j, hj, rfl, oo, rr, bb⟩ := hrel
      have OO := Lib.hid oo
      have RR := Lib.hid rr
      have BB := Lib.hid bb
      clear oo rr bb d1
      rcases Nat.lt_or_ge j n with hlt | hge
      · have hj1 : (j : Int) < n := by omega
        obtain ⟨x, hx⟩ : ∃ x, l[j]? = some x := ⟨_, List.getElem?_eq_getElem (by rw [← HN.out]; exact hlt)⟩
        obtain ⟨g, off, cap', e1, _, _, _, hc⟩ := RR.out.there (by omega)
        cases e1
        have c0 := (hc _ _ (flat_get l j x hx).1).1
        have c1 := (hc _ _ (flat_get l j x hx).2).1
        rw [← Nat.add_assoc] at c1
        have hit := HO.out.item x (List.mem_of_getElem? hx)
        have hmost := most_lt b hb
        have htot : x.2 ≤ 1099511627776 := Nat.le_trans (many_le l x (List.mem_of_getElem? hx)) HO.out.total
        obtain ⟨A, hA⟩ : ∃ A : Nat, A = (x.1 + 2147483648).toNat := ⟨_, rfl⟩
        have s3 : IntKind.u64.wrap (x.1 + 2147483648) = (A : Int) := by rw [u64_in _ (by omega) (by omega)]; omega
        have s4 : IntKind.i64.wrap (x.1 + 2147483648) = x.1 + 2147483648 := by rw [IntKind.wrap_i64]; omega
        have hA2 : A < 18446744073709551616 := by omega
        have HX := Lib.hid (show encI (l.take (j + 1)) = encI (l.take j) ++ (be A 4 ++ be x.2 6) by rw [List.take_add_one, hx, hA]; exact encI_snoc _ _)
        obtain ⟨ys, hys⟩ : ∃ ys, ys = pre ++ encI (l.take j) := ⟨_, rfl⟩
        have hyl : ys.length ≤ 100000 := by
          rw [hys, List.length_append, HPL.out, encI_length]
          have : (l.take j).length ≤ j := List.length_take_le _ _
          omega
        rw [← hys] at OO
        have HYS := Lib.hid hys
        have K1 := Lib.hid (show ∀ u : World, u.os = wr.os ∧ u.tape = wr.tape ∧ u.output = wr.output ∧ u.heap = (wr.alloc (.cells #[.int .i64 x.1, .int .u64 (x.2 : Int)] 105)).heap →
            Calls Try.prog 62 #[u3, .int .u64 A, .int .i64 4] u fun e w' => ∃ v', e = .returned v' ∧ (w'.ownsRow w.heap.size 5 1 v' (ys ++ be A 4).length (vb (ys ++ be A 4)) ∧ Below w.heap.size w w' ∧ w'.cell? ⟨wr.heap.size, 1, none⟩ = some (.int .u64 (x.2 : Int))) from fun u ⟨u1, u2, u3', u4⟩ => by
          have B5 : Below wr.heap.size wr u := ⟨u1, u2, u3', by rw [u4]; simp, fun k hk => by rw [u4]; exact Below.heap_alloc wr _ k hk⟩
          have hY : u.heap[wr.heap.size]? = some (.cells #[.int .i64 x.1, .int .u64 (x.2 : Int)] 105 (0, 0)) := by rw [u4]; exact heap_alloc_new wr _
          have OU : u.ownsRow w.heap.size 5 1 u3 ys.length (vb ys) := by
            refine ⟨OO.out.1, ?_⟩
            rcases OO.out.2 with h | ⟨g, cap, cur, h1, h2, h3, h4⟩
            · exact .inl h
            · exact .inr ⟨g, cap, cur, h1, h2, by rw [B5.block g (heap_lt h3)]; exact h3, h4⟩
          refine (put_any u w.heap.size u3 ys A 4 OU (Nat.le_trans BB.out.size B5.size) hA2 (by omega) (by omega)).mono ?_
          rintro e w' ⟨v', rfl, o, t'⟩
          have hYu : wr.heap.size ∉ ob u3 := fun h => by have := (OO.out.lt _ (mem_ob.1 h)).2; omega
          have hc := t'.chg.block wr.heap.size (heap_lt hY) hYu
          exact ⟨v', rfl, o, (BB.out.trans (B5.mono BB.out.size)).trans (t'.ownsBelow OU (Nat.le_trans BB.out.size B5.size)), by simp [World.cell?, hc, hY]⟩)
        have K2 := Lib.hid (show ∀ (u : World) (v1 : Value), u.ownsRow w.heap.size 5 1 v1 (ys ++ be A 4).length (vb (ys ++ be A 4)) → Below w.heap.size w u →
            Calls Try.prog 62 #[v1, .int .u64 (x.2 : Int), .int .i64 6] u fun e w' => ∃ v', e = .returned v' ∧ (w'.ownsRow w.heap.size 5 1 v' ((ys ++ be A 4) ++ be x.2 6).length (vb ((ys ++ be A 4) ++ be x.2 6)) ∧ Below w.heap.size w w') from fun u v1 o1 b1 => by
          refine (put_any u w.heap.size v1 (ys ++ be A 4) x.2 6 o1 b1.size (by omega) (by omega) (by rw [List.length_append, be_length]; omega)).mono ?_
          rintro e w' ⟨v', rfl, o, t'⟩
          exact ⟨v', rfl, o, b1.trans (t'.ownsBelow o1 b1.size)⟩)
        have hlt' := Lib.hid hlt
        have HRN := Lib.hid (show ∀ g ∈ R, g < w.heap.size from fun g hg => (HR.out.own.mem g hg).2)
        clear hc hx hit hmost hys hlt hA
        go_upto_block 1 with (fail)
        go_cut [3] (fun v1 w1 => w1.ownsRow w.heap.size 5 1 v1 ((ys ++ be A 4) ++ be x.2 6).length (vb ((ys ++ be A 4) ++ be x.2 6)) ∧ Below w.heap.size w w1)
        case first =>
          go_wp2_with fail
          obtain ⟨X, hX⟩ : ∃ X, X = wr.heap.size := ⟨_, rfl⟩
          obtain ⟨W5, hW5⟩ : ∃ W5, W5 = wr.alloc (.cells #[.int .i64 x.1, .int .u64 (x.2 : Int)] 105) := ⟨_, rfl⟩
          have y0 : W5.cell? ⟨X, 0, none⟩ = some (.int .i64 x.1) := by rw [hW5, hX, new_cell]; rfl
          have y1 : W5.cell? ⟨X, 1, none⟩ = some (.int .u64 (x.2 : Int)) := by rw [hW5, hX, new_cell]; rfl
          have K3 := Lib.hid (fun (u : World) (hu : u.os = W5.os ∧ u.tape = W5.tape ∧ u.output = W5.output ∧ u.heap = W5.heap) => K1.out u (by rw [hW5] at hu; exact hu))
          rw [← hX] at K3
          rw [← hW5, ← hX]
          clear hW5 hX c0 c1 K1 OO HR HRN RR R1 O1 B1
          go_region_with (first
            | (go_at_call 62; with_reducible refine Calls.mono (K3.out _ ?_) ?_; exact ⟨rfl, rfl, rfl, rfl⟩; rintro e w1 ⟨v1, rfl, o1, b1, x1⟩; have O1 := Lib.hid o1; have B1 := Lib.hid b1; clear o1 b1)
            | (go_at_call 62; with_reducible refine Calls.mono (K2.out _ _ ?_ ?_) ?_; exact O1.out; exact B1.out; rintro e w2 ⟨v2, rfl, o2, b2⟩; have O2 := Lib.hid o2; have B2 := Lib.hid b2; clear o2 b2))
          all_goals
            go_wp2_with fail
            go_meet
            case rel => exact ⟨O2.out, B2.out⟩
        case rest =>
          obtain ⟨o2, b2⟩ := hcut
          have O2 := Lib.hid (show wc.ownsRow w.heap.size 5 1 u3 (pre ++ encI (l.take (j + 1))).length (vb (pre ++ encI (l.take (j + 1)))) by
            rw [HX.out, ← List.append_assoc, ← HYS.out, ← List.append_assoc]
            exact o2)
          have B2 := Lib.hid b2
          have R2 := Lib.hid (show Row 105 2 wc (.slice (some ⟨g, off, none⟩) n cap) n (flat l) R from HR.out.same fun k hk => b2.block k (HRN.out k hk))
          clear o2 b2 K1 K2 c0 c1
          go_wp2
          go_roundw
          case rel => exact ⟨j + 1, hlt'.out, by go_num, O2.out, R2.out, B2.out⟩
          case measure => have := hlt'.out; simp [intOf]; omega
      · have hj1 : ¬ (j : Int) < n := by omega
        have EJ := Lib.hid (show pre ++ encI (l.take j) = encL b l by
          rw [List.take_of_length_le (by rw [← HN.out]; omega), HPR.out, HN.out]
          rfl)
        have OE := OO.out
        rw [EJ.out, encL_length] at OE
        rcases OE.2 with ⟨rfl, h0⟩ | ⟨g, cap2, cur, rfl, h2, h3, h4, h5, h6, h7⟩
        · omega
        · have hcv := run_convert_bytes_arg (P := Try.prog) wr 79 5 Try.underlying79 Try.underlying5 g 0 (3 + l.length * 10) cap2 (encL b l) (encL_length b l) (fun i hi => by
            have hc := OE.cellAt i (by omega)
            rw [Nat.zero_add, hc]
            have hi' : i < (encL b l).length := by rw [encL_length]; exact hi
            simp [vb, List.getD_eq_getElem?_getD, List.getElem?_eq_getElem hi']) 9 Try.underlying9
          obtain ⟨N, hN⟩ : ∃ N, N = 3 + l.length * 10 := ⟨_, rfl⟩
          rw [EJ.out, encL_length, ← hN] at OO
          rw [← hN] at hcv ⊢
          clear hge OE h2 h3 h4 h5 h6 h7 hN
          go_wp2
          go_ret
          exact ⟨rfl, BB.out⟩

end Go.Proofs.Ytgafnilcmhjpcaa.HHist
