/- CellOrder: in whatever order they were added, and merged, it is the same. Conditions: the parameters' ranges. -/
import Derived.Test.YtgafnilcmhjpcaaCellOrderP
import Derived.Test.YtgafnilcmhjpcaaApp
namespace Go.Proofs.Ytgafnilcmhjpcaa.HCell
set_option linter.unusedVariables false
open Go.RowKit Go.Proofs.Ytgafnilcmhjpcaa.HMem Go.Proofs.Ytgafnilcmhjpcaa.HHist Go.Proofs.Ytgafnilcmhjpcaa.HWide Go.Proofs.Ytgafnilcmhjpcaa.HApp
open Go.Proofs.Ytgafnilcmhjpcaa.Print (I64)

def minW (ns : List Int) : Int := ns.foldl min 9223372036854775807
def maxW (ns : List Int) : Int := ns.foldl max (-9223372036854775808)
theorem minW_snoc (ns : List Int) (x : Int) : minW (ns ++ [x]) = min (minW ns) x := by simp [minW, List.foldl_append]
theorem maxW_snoc (ns : List Int) (x : Int) : maxW (ns ++ [x]) = max (maxW ns) x := by simp [maxW, List.foldl_append]
theorem minW_is (ns : List Int) (h : ns ≠ []) (hz : ∀ x ∈ ns, I64 x) : minW ns = minL ns := by
  cases ns with
  | nil => exact absurd rfl h
  | cons x r =>
    have := hz x (by simp)
    unfold Print.I64 at this
    show r.foldl min (min 9223372036854775807 x) = r.foldl min x
    rw [show min 9223372036854775807 x = x by omega]
theorem maxW_is (ns : List Int) (h : ns ≠ []) (hz : ∀ x ∈ ns, I64 x) : maxW ns = maxL ns := by
  cases ns with
  | nil => exact absurd rfl h
  | cons x r =>
    have := hz x (by simp)
    unfold Print.I64 at this
    show r.foldl max (max (-9223372036854775808) x) = r.foldl max x
    rw [show max (-9223372036854775808) x = x by omega]
theorem rev_drop (l : List Int) (j : Nat) (x : Int) (hx : l[j]? = some x) : (l.drop j).reverse = (l.drop (j + 1)).reverse ++ [x] := by
  have hj := (List.getElem?_eq_some_iff.1 hx).1
  rw [List.drop_eq_getElem_cons hj, List.reverse_cons]
  have : l[j] = x := Option.some.inj ((List.getElem?_eq_getElem hj).symm.trans hx)
  rw [this]
theorem Zs.set {e : TypeId} {k : IntKind} {B : Nat} {w : World} {v : Value} {l : List Int} (h : Zs e k B w v l) (g i : Nat) (x : Value) (hg : g < B) : Zs e k B (w.setCell ⟨g, i, none⟩ x) v l := ownsRow_setCell_below h hg x
theorem Zs_nrow {k : IntKind} {e : TypeId} {B : Nat} {w : World} {v : Value} {l : List Int} (h : Zs e k B w v l) : NRow k w v l := by
  rcases h.2 with ⟨rfl, h0⟩ | ⟨g, cap, cur, rfl, hg, hcur, hnc, hcm, hsz, htake⟩
  · exact .inl ⟨rfl, List.length_eq_zero_iff.1 h0⟩
  · obtain ⟨a, c, e, h2, h3, h4, h5⟩ := h.form
    cases e
    exact .inr ⟨_, _, rfl, h2, h3, fun i x hx => by obtain ⟨a', e, hc⟩ := h5 i x hx; cases e; exact hc⟩
theorem infoI2 : (Try.prog.info? 2).map (fun i => (i.zero, i.size, i.bytes)) = some (some (.int .i64 0), 1, 8) := by kernel_rfl
theorem chg_below {F : Nat → Prop} {A w w' : World} (h : Chg F A w) (b : Below A.heap.size w w') : Chg F A w' :=
  ⟨b.os.trans h.os, b.tape.trans h.tape, b.output.trans h.output, Nat.le_trans h.size b.size, fun k hk hf => (b.block k hk).trans (h.block k hk hf)⟩
theorem two.below {B : Nat} {w w' : World} {b : Nat} {x : Int × Int} (h : two w b x) (k : Below B w w') (hb : b < B) : two w' b x := by
  unfold two at *
  rw [k.block b hb]; exact h
theorem sum_add (xs : List Int) (x : Int) (hz : ∀ y ∈ xs, I64 y) (hx : I64 x) (hl : xs.length ≤ 1000) : nrm (val (nrm xs.sum).1 (nrm xs.sum).2 + val (nrm x).1 (nrm x).2) = nrm (xs ++ [x]).sum := by
  have hb := sum_bound xs hz
  unfold Print.I64 at hx
  rw [val_nrm xs.sum (by omega), val_nrm x (by omega), sum_snoc]
set_option maxHeartbeats 8000000 in
set_option maxRecDepth 20000 in
theorem CellOrder_any (w : World) (fine : Nat) (v v' : Value) (ls ms : List Int) (hfi : fine < 256) (hv : NRow .i64 w v ls) (hi : ∀ x ∈ ls, I64 x) (hv' : NRow .i64 w v' ms) (hi' : ∀ x ∈ ms, I64 x) :
    Calls Try.prog 6 #[.int .u8 fine, v, v'] w fun e w' => e = .returned (.bool true) ∧ Below w.heap.size w w' := by
  obtain ⟨i0, hi0, hz0, hz1, hz2⟩ : ∃ i, Try.prog.info? 2 = some i ∧ i.zero = some (.int .i64 0) ∧ i.size = 1 ∧ i.bytes = 8 := by
    have := infoI2
    cases h : Try.prog.info? 2 with
    | none => rw [h] at this; cases this
    | some i => rw [h] at this; simp at this; exact ⟨i, rfl, this.1, this.2.1, this.2.2⟩
  have HVL := Lib.hid hv
  have HVM := Lib.hid hv'
  obtain ⟨a, cp, rfl, hcap, hmax, _⟩ := hv.form
  obtain ⟨a', cp', rfl, hcap', hmax', _⟩ := hv'.form
  clear hv hv'
  obtain ⟨n, hn⟩ : ∃ n, n = ls.length := ⟨_, rfl⟩
  obtain ⟨n', hn'⟩ : ∃ n, n = ms.length := ⟨_, rfl⟩
  rw [← hn] at hcap HVL ⊢
  rw [← hn'] at hcap' HVM ⊢
  clear hn hn'
  obtain ⟨b, hb⟩ : ∃ b, b = fine % 5 := ⟨_, rfl⟩
  have hb4 : b ≤ 4 := by omega
  have EB := Lib.hid (show ((fine : Nat) : Int) % 5 = (b : Int) by omega)
  obtain ⟨k, hk⟩ : ∃ k, k = min n 30 := ⟨_, rfl⟩
  obtain ⟨k', hk'⟩ : ∃ k, k = min n' 30 := ⟨_, rfl⟩
  have L1 := Lib.hid (HVL.out.take k (by omega))
  have M1 := Lib.hid (HVM.out.take k' (by omega))
  have ek : min (n : Int) 30 = (k : Int) := by omega
  have ek' : min (n' : Int) 30 = (k' : Int) := by omega
  have hkc : (k : Int) ≤ cp := by omega
  have hkc' : (k' : Int) ≤ cp' := by omega
  have hk30 : k ≤ 30 := by omega
  have hk30' : k' ≤ 30 := by omega
  obtain ⟨ll, hll⟩ : ∃ ll, ll = ls.take k := ⟨_, rfl⟩
  obtain ⟨mm, hmm⟩ : ∃ mm, mm = ms.take k' := ⟨_, rfl⟩
  have hIl : ∀ x ∈ ll, I64 x := fun x hx => hi x (List.mem_of_mem_take (hll ▸ hx))
  have hIm : ∀ x ∈ mm, I64 x := fun x hx => hi' x (List.mem_of_mem_take (hmm ▸ hx))
  rw [← hll] at L1
  rw [← hmm] at M1
  have HLEN := Lib.hid (show ll.length = k from L1.out.cells.1)
  have HLEN' := Lib.hid (show mm.length = k' from M1.out.cells.1)
  have HIL := Lib.hid hIl
  have HIM := Lib.hid hIm
  clear hb hk hk' hll hmm HVL HVM hIl hIm hi hi' hcap hcap'
  go_enter Try.func6, Try.ntmps6
  go_wp2_with fail
  refine (examples_any w).mono ?_
  rintro e w1 ⟨rfl, b1⟩
  have B1 := Lib.hid b1
  clear b1
  obtain ⟨g, hg⟩ : ∃ g, g = w1.heap.size := ⟨_, rfl⟩
  obtain ⟨W, hW⟩ : ∃ W, W = w1.alloc (.cells #[.int .i64 0, .int .u64 0] 43) := ⟨_, rfl⟩
  have bW : Below w1.heap.size w1 W := by rw [hW]; exact (Below.refl _ _).alloc (Nat.le_refl _) _
  have TW := Lib.hid (show two W g (0, 0) by rw [hW, hg]; exact heap_alloc_new w1 _)
  have hgW : g + 1 = W.heap.size := by rw [hW, hg]; simp
  have hgB : w.heap.size ≤ g := by have := B1.out.size; omega
  have BW := Lib.hid (show Below w.heap.size w W from B1.out.trans (bW.mono B1.out.size))
  have LW := Lib.hid (L1.out.mono BW.out)
  have HGW := Lib.hid hgW
  have HGB := Lib.hid hgB
  have OW := Lib.hid (show W.ownsRow W.heap.size 2 1 (.slice none 0 0) 0 [] from ⟨rfl, .inl ⟨rfl, rfl⟩⟩)
  have HW := Lib.hid hW
  have HG := Lib.hid hg
  have c0 : a = none → k = 0 ∧ cp = 0 := fun h => L1.out.none h
  have c1 : (vz .i64 ll).length = k * 1 := by rw [vz_length, HLEN.out]; omega
  have c2 : ∀ ad, a = some ad → ∀ j u, (vz .i64 ll)[j]? = some u → W.cell? (ad.add j) = some u := fun ad h j u hu => by
    unfold vz at hu
    rw [List.getElem?_map] at hu
    cases hx : ll[j]? with
    | none => rw [hx] at hu; cases hu
    | some x => rw [hx] at hu; cases hu; exact LW.out.cells.2 ad h j x hx
  have c4 : 0 + k ≤ maxLen := by unfold maxLen; omega
  have c5 : (0 + k) * 8 ≤ 140737488355328 := by omega
  have C0 := Lib.hid c0
  have C1 := Lib.hid c1
  have C2 := Lib.hid c2
  have C4 := Lib.hid c4
  have C5 := Lib.hid c5
  clear bW hgW hgB hW hg c0 c1 c2 c4 c5
  go_wp2_with (at_builtin; rw [← HW.out]; refine append_any _ rfl _ _ 22 rfl W.heap.size 2 i0 (.int .i64 0) 1 8 Try.underlying22 hi0 hz0 hz1 hz2 rfl (by decide) _ 0 [] rfl OW.out a k cp (vz .i64 ll) rfl C0.out C1.out C2.out (vz_one _ _) C4.out C5.out (Nat.le_refl _) ?_)
  intro v1 w2 o1 b2
  have O1 := Lib.hid (show w2.ownsRow W.heap.size 2 1 v1 k (vz .i64 ll) by simpa using o1)
  have B2 := Lib.hid b2
  have MW := Lib.hid (M1.out.mono (BW.out.trans (b2.mono BW.out.size)))
  have c0 : a' = none → k' = 0 ∧ cp' = 0 := fun h => M1.out.none h
  have c1 : (vz .i64 mm).length = k' * 1 := by rw [vz_length, HLEN'.out]; omega
  have c2 : ∀ ad, a' = some ad → ∀ j u, (vz .i64 mm)[j]? = some u → w2.cell? (ad.add j) = some u := fun ad h j u hu => by
    unfold vz at hu
    rw [List.getElem?_map] at hu
    cases hx : mm[j]? with
    | none => rw [hx] at hu; cases hu
    | some x => rw [hx] at hu; cases hu; exact MW.out.cells.2 ad h j x hx
  have c4 : k + k' ≤ maxLen := by unfold maxLen; omega
  have c5 : (k + k') * 8 ≤ 140737488355328 := by omega
  have D0 := Lib.hid c0
  have D1 := Lib.hid c1
  have D2 := Lib.hid c2
  have D4 := Lib.hid c4
  have D5 := Lib.hid c5
  clear b2 o1 c0 c1 c2 c4 c5 C0 C1 C2 C4 C5 LW
  go_wp2_with (at_builtin; refine append_any _ rfl _ _ 22 rfl W.heap.size 2 i0 (.int .i64 0) 1 8 Try.underlying22 hi0 hz0 hz1 hz2 rfl (by decide) _ k (vz .i64 ll) rfl O1.out a' k' cp' (vz .i64 mm) rfl D0.out D1.out D2.out (vz_one _ _) D4.out D5.out B2.out.size ?_)
  intro v2 w3 o2 b3
  obtain ⟨L, hL⟩ : ∃ L, L = ll ++ mm := ⟨_, rfl⟩
  obtain ⟨N, hN⟩ : ∃ N, N = k + k' := ⟨_, rfl⟩
  have hLl : L.length = N := by rw [hL, hN, List.length_append, HLEN.out, HLEN'.out]
  have ZL : Zs 2 .i64 W.heap.size w3 v2 L := by
    unfold Zs
    rw [hLl, hN, hL, vz_append]
    exact o2
  rw [← HG.out]
  have hIL : ∀ x ∈ L, I64 x := fun x hx => by
    rcases List.mem_append.1 (hL ▸ hx) with h | h
    · exact HIL.out x h
    · exact HIM.out x h
  have hN60 : N ≤ 60 := by omega
  have B3' := b3
  obtain ⟨ax, cx, rfl, hNc, hcm, hax, cell⟩ := ZL.form
  rw [hLl] at hNc hax ZL ⊢
  have B23 := Lib.hid (show Below W.heap.size W w3 from B2.out.trans b3)
  have BB3 := Lib.hid (show Below w.heap.size w w3 from BW.out.trans (B23.out.mono BW.out.size))
  have T3 := Lib.hid (show two w3 g (0, 0) from two.below TW.out B23.out (by have := HGW.out; omega))
  have HL := Lib.hid hL
  have HLL := Lib.hid hLl
  have HIX := Lib.hid hIL
  have HN := Lib.hid hN
  have CELL := Lib.hid (show ∀ u : World, Chg (· = g) w3 u → ∀ (i : Nat) (x : Int), L[i]? = some x → ∃ a', ax = some a' ∧ u.cell? (a'.add i) = some (.int .i64 x) ∧ (a'.add i).block ≠ g ∧ (a'.add i).block < w3.heap.size from fun u hu i x hx => by
    obtain ⟨a', ha, hc⟩ := cell i x hx
    have hlt := World.block_lt_of_cell? _ _ hc
    have hne : (a'.add i).block ≠ g := by
      rcases ZL.2 with ⟨e, h0⟩ | ⟨gg, cap, cur, e, hgg, _⟩
      · cases e; cases ha
      · cases e; cases ha
        have h1 : W.heap.size ≤ gg := hgg
        have h2 := HGW.out
        intro e2
        have e3 : (Addr.add ⟨gg, 0, none⟩ i).block = gg := by unfold Addr.add; split <;> rfl
        rw [e3] at e2
        omega
    exact ⟨a', ha, (World.cell?_of_block (hu.block _ hlt hne)).trans hc, hne, hlt⟩)
  have HAX := Lib.hid hax
  have hgw3 : g < w3.heap.size := by have h1 := B23.out.size; have h2 := HGW.out; omega
  have HGW3 := Lib.hid hgw3
  clear o2 b3 B3' hL hLl ZL hIL cell hax hgw3 D0 D1 D2 D4 D5 O1 B2 MW OW TW HW HG hN
  go_wp2_with fail
  go_loopw [8, 10, 11, 13] (fun x y z i wr => ∃ (v : Value) (j : Nat), v = x ∧ y = .int .i64 (minW (L.drop j).reverse) ∧ z = .int .i64 (maxW (L.drop j).reverse) ∧ i = .int .i64 ((j : Int) - 1) ∧ j ≤ N ∧ Zs 2 .i64 w3.heap.size wr v ((L.drop j).reverse) ∧ two wr g (nrm (L.drop j).reverse.sum) ∧ Chg (· = g) w3 wr) (fun _ _ _ i _ => (intOf i + 1).toNat)
  case atStart =>
    have e0 : L.drop N = [] := List.drop_of_length_le (by rw [HLL.out]; exact Nat.le_refl _)
    exact ⟨_, N, rfl, by rw [e0]; rfl, by rw [e0]; rfl, by go_num, Nat.le_refl _, by rw [e0]; exact Zs.nil _ _ _ _, by
      rw [e0]
      have e : nrm (List.sum ([] : List Int).reverse) = (0, 0) := by decide +kernel
      rw [e]
      exact T3.out, Chg.refl _ _⟩
  case round =>
    obtain ⟨v, j, rfl, rfl, rfl, rfl, hj, zz, tt, ch⟩ := hrel
    have ZZ := Lib.hid zz
    have TT := Lib.hid tt
    have CH := Lib.hid ch
    have hWr : w3.heap.size ≤ wr.heap.size := ch.size
    clear zz tt ch
    rcases Nat.eq_zero_or_pos j with hj0 | hpos
    rotate_left
    · obtain ⟨j, rfl⟩ : ∃ i, j = i + 1 := ⟨j - 1, by omega⟩
      have ej : ((j + 1 : Nat) : Int) - 1 = (j : Int) := by omega
      rw [ej]
      have hj1 : 0 ≤ (j : Int) := by omega
      have hj2 : (j : Int) < N := by omega
      obtain ⟨x, hx⟩ : ∃ x, L[j]? = some x := ⟨_, List.getElem?_eq_getElem (by rw [HLL.out]; omega)⟩
      obtain ⟨ad, rfl, c0, hne, hlt⟩ := CELL.out _ CH.out j x hx
      have ER := Lib.hid (rev_drop L j x hx)
      have HX : I64 x := HIX.out x (List.mem_of_getElem? hx)
      obtain ⟨xs, hxs⟩ : ∃ xs, xs = (L.drop (j + 1)).reverse := ⟨_, rfl⟩
      have hxl : xs.length ≤ 60 := by rw [hxs]; simp; have h1 := HLL.out; omega
      have hxz : ∀ y ∈ xs, I64 y := fun y hy => HIX.out y (List.mem_of_mem_drop (List.mem_reverse.1 (hxs ▸ hy)))
      rw [← hxs] at ZZ TT ER ⊢
      have SUM := Lib.hid (sum_add xs x hxz HX (by omega))
      obtain ⟨q, hq⟩ : ∃ q, q = xs.length := ⟨_, rfl⟩
      rw [← hq] at hxl
      have HQ := Lib.hid hq
      have OWN := Lib.hid (show (wr.alloc (.cells #[.int .i64 x] 2)).ownsRow w3.heap.size 2 1 v q (vz .i64 xs) by
        have := ZZ.out.mono ((Below.refl wr.heap.size wr).alloc (Nat.le_refl _) (.cells #[.int .i64 x] 2))
        unfold Zs at this
        rw [hq]
        exact this)
      have HXX := Lib.hid HX
      have HNE := Lib.hid hne
      have HLT := Lib.hid hlt
      obtain ⟨y0, hy0⟩ : ∃ y, y = minW xs := ⟨_, rfl⟩
      obtain ⟨z0, hz0'⟩ : ∃ y, y = maxW xs := ⟨_, rfl⟩
      have EM := Lib.hid (show minW (xs ++ [x]) = min y0 x by rw [minW_snoc, hy0])
      have EX := Lib.hid (show maxW (xs ++ [x]) = max z0 x by rw [maxW_snoc, hz0'])
      rw [← hy0, ← hz0']
      have C0 := Lib.hid c0
      clear hx ej hxs hq hxz HX hne hlt hy0 hz0'
      go_wp2_with (at_builtin; refine append_any _ rfl _ _ 22 rfl w3.heap.size 2 i0 (.int .i64 0) 1 8 Try.underlying22 hi0 hz0 hz1 hz2 rfl (by decide) _ q (vz .i64 xs) rfl OWN.out (some ⟨wr.heap.size, 0, none⟩) 1 1 [.int .i64 x] rfl ?c0 rfl ?c2 ?c3 ?c4 ?c5 ?c6 ?_)
      case c0 => intro h; cases h
      case c2 => intro ad h; cases h; exact cell_one_new _ _ _
      case c3 => intro u hu; simp at hu; subst hu; rfl
      case c4 => unfold maxLen; omega
      case c5 => omega
      case c6 => exact Nat.le_trans hWr (by simp)
      intro v3 w4 o3 b3
      have bb : Below w3.heap.size wr w4 := ((Below.refl _ wr).alloc hWr _).trans b3
      have CH4 := Lib.hid (chg_below CH.out bb)
      have Z4 := Lib.hid (show Zs 2 .i64 w3.heap.size w4 v3 ((L.drop j).reverse) by
        rw [ER.out]
        unfold Zs
        rw [List.length_append, ← HQ.out, vz_append]
        exact o3)
      have T4 := Lib.hid (two.below TT.out bb HGW3.out)
      have hW4 : w3.heap.size ≤ w4.heap.size := Nat.le_trans hWr bb.size
      clear c0
      have c0 : w4.cell? (ad.add j) = some (.int .i64 x) := by
        rw [← C0.out]
        exact World.cell?_of_block (bb.block _ HLT.out)
      clear o3 b3 bb OWN C0 ZZ TT CH
      go_wp2_with fail
      obtain ⟨p, hp⟩ : ∃ p, p = nrm xs.sum := ⟨_, rfl⟩
      obtain ⟨r, hr⟩ : ∃ r, r = nrm (xs ++ [x]).sum := ⟨_, rfl⟩
      obtain ⟨s, hs⟩ : ∃ s, s = nrm x := ⟨_, rfl⟩
      have K1 := Lib.hid (show ∀ v, Below w4.heap.size w4 v → Calls Try.prog 21 #[.int .i64 x] v fun e w' => e = .returned (.agg #[.int .i64 s.1, .int .u64 s.2]) ∧ Below v.heap.size v w' from fun v hv => by rw [hs]; exact HWide.Of_any x v HXX.out)
      have K2 := Lib.hid (show ∀ v, Below w4.heap.size w4 v → Calls Try.prog 20 #[.agg #[.int .i64 p.1, .int .u64 p.2], .agg #[.int .i64 s.1, .int .u64 s.2]] v fun e w' => e = .returned (.agg #[.int .i64 r.1, .int .u64 r.2]) ∧ Below v.heap.size v w' from fun v hv => by
        have h1 := nrm_rng xs.sum
        have h2 := nrm_rng x
        unfold Rng at h1 h2
        have := HWide.Add_any (nrm xs.sum).1 (nrm xs.sum).2 (nrm x).1 (nrm x).2 v h1.2.2.1 h1.2.2.2 h2.2.2.1 h2.2.2.2
        rw [SUM.out] at this
        rw [hp, hs, hr]
        exact this)
      have HR := Lib.hid (show nrm ((L.drop j).reverse).sum = r by rw [ER.out, hr])
      rw [← hp] at T4
      clear hp hr hs
      obtain ⟨x0, x1, _, _⟩ := T4.out.c
      refine QTail.wp_region_quiet_tail (C := fun w' => Below w4.heap.size w4 w') 7 (by kernel_rfl) (by kernel_rfl) ((Below.refl _ _).drew) ?_
      simp only [List.take_succ_cons, List.take_zero]
      try dsimp only [List.append]
      repeat (
        with_reducible refine wpQuiet_step (fun K hK => ?_)
        go_simp
        first
          | (with_reducible refine hK _ ?_; clear hK K)
          | (refine hK _ ?_; clear hK K)
          | (apply Exists.intro
             refine ⟨fun v hv => ?_, hK _ ?_⟩
             (first
               | with_reducible rfl
               | (with_reducible show Calls _ _ _ _ _
                  first
                    | with_reducible refine Calls.mono (K1.out _ hv) ?_
                    | with_reducible refine Calls.mono (K2.out _ hv) ?_
                  rintro e w' ⟨rfl, hb⟩
                  exact ⟨rfl, hv.trans (hb.mono hv.size)⟩)
               | (have d0 := (hv.cell (World.block_lt_of_cell? _ _ c0)).trans c0
                  have d1 := (hv.cell (World.block_lt_of_cell? _ _ x0)).trans x0
                  have d2 := (hv.cell (World.block_lt_of_cell? _ _ x1)).trans x1
                  go_simp
                  with_reducible rfl))
             clear hK K))
      refine wpQuiet_nil ?_
      intro wf hk
      simp only [List.drop_succ_cons, List.drop_zero]
      have hgw4 : g < w4.heap.size := Nat.lt_of_lt_of_le HGW3.out hW4
      have TF := T4.out.mono hk
      replace x0 := (hk.cell hgw4).trans x0
      replace x1 := (hk.cell hgw4).trans x1
      obtain ⟨_, _, f0, f1⟩ := TF.c
      have RT := Lib.hid (two.set TF r)
      have ZF := Lib.hid (Zs.set (Zs.set (Z4.out.mono hk) g 0 (.int .i64 r.1) HGW3.out) g 1 (.int .u64 r.2) HGW3.out)
      have CF := Lib.hid (((CH4.out.trans (Chg.of hk)).trans (Chg.set wf g 0 (.int .i64 r.1))).trans (Chg.set _ g 1 (.int .u64 r.2)))
      replace c0 := (hk.cell (Nat.lt_of_lt_of_le HLT.out hW4)).trans c0
      have d1 : (wf.setCell ⟨g, 0, none⟩ (.int .i64 r.1)).cell? (ad.add j) = some (.int .i64 x) := by
        rw [← c0]
        exact World.cell?_of_block (Below.heap_setCell _ _ _ _ HNE.out)
      have d2 : ((wf.setCell ⟨g, 0, none⟩ (.int .i64 r.1)).setCell ⟨g, 1, none⟩ (.int .u64 r.2)).cell? (ad.add j) = some (.int .i64 x) := by
        rw [← d1]
        exact World.cell?_of_block (Below.heap_setCell _ _ _ _ HNE.out)
      clear hk TF K1 K2
      go_wp2
      go_roundw
      case rel => exact ⟨v3, j, rfl, by rw [ER.out, EM.out], by rw [ER.out, EX.out], by go_num, by omega, ZF.out, by rw [HR.out]; exact RT.out, CF.out⟩
      case measure => first | (simp [intOf]; done) | (simp [intOf]; omega)
    · subst hj0
      have hj1 : ¬ (0 : Int) ≤ (0 : Int) - 1 := by omega
      have B4 := Lib.hid (show Below w.heap.size w wr from BB3.out.trans (CH.out.below (fun k e => by rw [e]; exact HGB.out) BB3.out.size))
      have LR := Lib.hid (L1.out.mono B4.out)
      have MR := Lib.hid (M1.out.mono B4.out)
      have ZR := Lib.hid (show NRow .i64 wr v L.reverse from Zs_nrow ZZ.out)
      have T4 := Lib.hid (show two wr g (nrm L.reverse.sum) from TT.out)
      have hgr : g < wr.heap.size := Nat.lt_of_lt_of_le HGW3.out CH.out.size
      have HGR := Lib.hid hgr
      obtain ⟨xs, hxs⟩ : ∃ xs, xs = L.reverse := ⟨_, rfl⟩
      have hxz : ∀ y ∈ xs, I64 y := fun y hy => HIX.out y (List.mem_reverse.1 (hxs ▸ hy))
      have hxl : xs.length = N := by rw [hxs, List.length_reverse, HLL.out]
      have hxe : xs = mm.reverse ++ ll.reverse := by rw [hxs, HL.out, List.reverse_append]
      have e0 : (L.drop 0).reverse = xs := by rw [hxs]; rfl
      rw [e0]
      rw [← hxs] at ZR T4
      have ORD := order_is 3 8 b ll mm (by rw [HLEN.out]; exact hk30) (by rw [HLEN'.out]; exact hk30') HIL.out HIM.out
      rw [← hxe] at ORD
      have OIS := ofC_is 3 b _ xs rfl (by omega) hxz
      obtain ⟨_, gA, gtA, gbA, gfA⟩ := ofC_good 3 b ll (by unfold Print.I64; omega) hb4 HIL.out (by rw [HLEN.out]; omega)
      obtain ⟨_, gM, gtM, gbM, gfM⟩ := ofC_good 8 b mm (by unfold Print.I64; omega) hb4 HIM.out (by rw [HLEN'.out]; omega)
      obtain ⟨_, gX, gtX, gbX, gfX⟩ := ofC_good 3 b xs (by unfold Print.I64; omega) hb4 hxz (by omega)
      have OA := Lib.hid gA.ok
      have OM := Lib.hid gM.ok
      have OX := Lib.hid gX.ok
      have TM := Lib.hid (show HHist.total (ofC 8 b mm).l = k' by rw [gtM, HLEN'.out])
      have TX := Lib.hid (show HHist.total (ofC 3 b xs).l = N by rw [gtX, hxl])
      have FX := Lib.hid gfX
      have SX := Lib.hid (show (ofC 3 b xs).s = nrm xs.sum by rw [OIS])
      have LX := Lib.hid (show N ≠ 0 → (ofC 3 b xs).lo = minW xs by intro h; rw [OIS, minW_is xs (fun e => h (by rw [← hxl, e]; rfl)) hxz])
      have UX := Lib.hid (show N ≠ 0 → (ofC 3 b xs).hi = maxW xs by intro h; rw [OIS, maxW_is xs (fun e => h (by rw [← hxl, e]; rfl)) hxz])
      have KA := Lib.hid (of_any wr 3 b _ ll hb4 (by unfold Print.I64; omega) LR.out HIL.out (by rw [HLEN.out]; omega))
      have KB := Lib.hid (fun (u : World) (hu : Below wr.heap.size wr u) => of_any u 8 b _ mm hb4 (by unfold Print.I64; omega) (MR.out.mono hu) HIM.out (by rw [HLEN'.out]; omega))
      have KX := Lib.hid (fun (u : World) (hu : Below wr.heap.size wr u) => of_any u 3 b _ xs hb4 (by unfold Print.I64; omega) (ZR.out.mono hu) hxz (by rw [hxl]; omega))
      obtain ⟨y0, hy0⟩ : ∃ y, y = minW xs := ⟨_, rfl⟩
      obtain ⟨z0, hz0'⟩ : ∃ y, y = maxW xs := ⟨_, rfl⟩
      obtain ⟨p, hp⟩ : ∃ p, p = nrm xs.sum := ⟨_, rfl⟩
      obtain ⟨CA, hCA⟩ : ∃ c, c = ofC 3 b ll := ⟨_, rfl⟩
      obtain ⟨CM, hCM⟩ : ∃ c, c = ofC 8 b mm := ⟨_, rfl⟩
      obtain ⟨CX, hCX⟩ : ∃ c, c = ofC 3 b xs := ⟨_, rfl⟩
      rw [← hp] at SX T4
      rw [← hy0] at LX ⊢
      rw [← hz0'] at UX ⊢
      rw [← hCA, ← hCM, ← hCX] at ORD
      rw [← hCA] at KA OA
      rw [← hCM] at KB OM TM
      rw [← hCX] at KX OX TX FX SX LX UX
      clear hy0 hz0' hp hCA hCM hCX gA gtA gbA gfA gM gtM gbM gfM gX gtX gbX gfX OIS hxz hxl hxe hxs e0 ZZ TT LR MR ZR CELL HIX T3 hgr
      have eb := EB.out
      go_wp2_with fail
      refine KA.out.mono ?_
      rintro e w5 ⟨pa, rfl, ⟨GA, ka, oa, ga⟩, b5⟩
      have B5 := Lib.hid b5
      have KA5 := Lib.hid ka
      clear oa b5 ka KA
      go_wp2_with fail
      refine (KB.out w5 B5.out).mono ?_
      rintro e w6 ⟨pb, rfl, ⟨GB, kb, ob, gb⟩, b6⟩
      have B6 := Lib.hid (B5.out.trans (b6.mono B5.out.size))
      have KA6 := Lib.hid (KA5.out.mono b6)
      have KB6 := Lib.hid kb
      have HAB := Lib.hid (show ∀ x ∈ GA, x ∉ GB from fun x hx hm => by have h1 := (KA5.out.own.mem x hx).2; have h2 := gb x hm; omega)
      have HA := Lib.hid ga
      clear ob b6 kb KB ga
      go_wp2_with fail
      refine (KX.out w6 B6.out).mono ?_
      rintro e w7 ⟨px, rfl, ⟨GX, kx, ox, gx⟩, b7⟩
      have B7 := Lib.hid (B6.out.trans (b7.mono B6.out.size))
      have KA7 := Lib.hid (KA6.out.mono b7)
      have KB7 := Lib.hid (KB6.out.mono b7)
      have KX7 := Lib.hid kx
      have HAX2 := Lib.hid (show ∀ x ∈ GX, x ∉ GA from fun x hx hm => by have h1 := (KA6.out.own.mem x hm).2; have h2 := gx x hx; omega)
      have T7 := Lib.hid (two.below T4.out B7.out HGR.out)
      clear ox b7 kx KX
      have KM := HCell.Merge_any KA7.out KB7.out OA.out OM.out HAB.out
      rw [ORD] at KM
      go_wp2_with fail
      refine KM.mono ?_
      rintro e w8 ⟨rfl, G8, k8, t8⟩
      have B8 := Lib.hid (show Below wr.heap.size wr w8 from B7.out.trans (t8.chg.below (fun x hx => HA.out x hx) B7.out.size))
      have KX8 := Lib.hid (KX7.out.same fun x hx => t8.chg.block x (KX7.out.own.mem x hx).2 (fun hm => HAX2.out x hx hm))
      have KB8 := Lib.hid (KB7.out.same fun x hx => t8.chg.block x (KB7.out.own.mem x hx).2 (fun hm => HAB.out x hm hx))
      have KA8 := Lib.hid k8
      have T8 := Lib.hid (two.below T4.out B8.out HGR.out)
      clear k8 t8 KM KA5 KA6 KB6 KA7 KB7 KX7 T7 ORD
      have KBD := HCell.Bounds_any KA8.out
      rw [TX.out] at KBD
      obtain ⟨hA, RA, _, _, kbA, khA⟩ := KA8.out.ex
      obtain ⟨hB, RB, _, _, kbB, khB⟩ := KB8.out.ex
      obtain ⟨m0, hm0⟩ : ∃ m, m = CX.lo := ⟨_, rfl⟩
      obtain ⟨m1, hm1⟩ : ∃ m, m = CX.hi := ⟨_, rfl⟩
      rw [← hm0, ← hm1] at KBD
      rw [← hm0] at LX
      rw [← hm1] at UX
      obtain ⟨p0, _⟩ := kbA.cells
      obtain ⟨q0, _⟩ := kbB.cells
      obtain ⟨x0, x1, _, _⟩ := T8.out.c
      have ew1 : IntKind.u64.wrap (N : Int) = (N : Int) := by rw [u64w]; unfold B64; omega
      have ew2 : IntKind.u64.wrap (k' : Int) = (k' : Int) := by rw [u64w]; unfold B64; omega
      have K1 := Lib.hid (fun (u : World) (hu : Below w8.heap.size w8 u) => Same_yes (KA8.out.mono hu) (KX8.out.mono hu) OX.out OX.out rfl)
      have K2 := Lib.hid (show ∀ v, Below w8.heap.size w8 v → Calls Try.prog 30 #[.pointer (some ⟨pa, 0, none⟩)] v fun e w' => e = .returned (.agg #[.int .i64 p.1, .int .u64 p.2]) ∧ Below v.heap.size v w' from fun v hv => by rw [← SX.out]; exact HCell.Sum_any (kbA.mono hv))
      have K3 := Lib.hid (show ∀ v, Below w8.heap.size w8 v → Calls Try.prog 28 #[.pointer (some ⟨hA, 0, none⟩)] v fun e w' => e = .returned (.int .u64 (N : Nat)) ∧ Below v.heap.size v w' from fun v hv => by
        have := count_q khA v hv; rw [TX.out] at this; exact this)
      have K4 := Lib.hid (show ∀ v, Below w8.heap.size w8 v → Calls Try.prog 28 #[.pointer (some ⟨hB, 0, none⟩)] v fun e w' => e = .returned (.int .u64 (k' : Nat)) ∧ Below v.heap.size v w' from fun v hv => by
        have := count_q khB v hv; rw [TM.out] at this; exact this)
      have K5 := Lib.hid (show ∀ v, Below w8.heap.size w8 v → Calls Try.prog 31 #[.pointer (some ⟨pa, 0, none⟩)] v fun e w' => e = .returned (.int .i64 3) ∧ Below v.heap.size v w' from fun v hv => by rw [← FX.out]; exact HCell.From_any (kbA.mono hv))
      have t1 : (p.1 == p.1) = true := by simp
      have t2 : (p.2 == p.2) = true := by simp
      have t3 : ((N : Int) == (N : Int)) = true := by simp
      have t4 : ((k' : Int) == (k' : Int)) = true := by simp
      have hm := B8
      have P0 := Lib.hid p0
      have Q0 := Lib.hid q0
      have X0 := Lib.hid x0
      have X1 := Lib.hid x1
      have B4' := B4
      have KBDH := Lib.hid KBD
      clear hm0 hm1 kbA kbB khA khB p0 q0 x0 x1 KBD KA8 KB8 KX8 T8
      have RES := Lib.hid (fun (u : World) (hu : Below w8.heap.size w8 u) => (show Below w.heap.size w u from B4.out.trans ((B8.out.mono (by have := B4.out.size; exact this)).trans (hu.mono (by have := B4.out.size; have := B8.out.size; omega)))))
      rcases Nat.eq_zero_or_pos N with hN0 | hN0
      all_goals
        have hNd : decide (0 < N) = decide ((0 : Int) < (N : Int)) := by by_cases h : 0 < N <;> simp [h]
        rw [hNd] at KBDH
        first
          | (have hq : decide ((0 : Int) < (N : Int)) = false := by rw [hN0]; rfl)
          | (have hq : decide ((0 : Int) < (N : Int)) = true := decide_eq_true (by omega)
             have hN1 : (0 : Int) < (N : Int) := by omega
             have e1 := LX.out (by omega)
             have e2 := UX.out (by omega)
             subst e1 e2)
        rw [hq] at KBDH
        clear hNd hq
        go_wp2_with fail
        refine KBDH.out.mono ?_
        rintro e w9 ⟨rfl, b9⟩
        have B9 := Lib.hid b9
        have p0 := (b9.cell (World.block_lt_of_cell? _ _ P0.out)).trans P0.out
        have q0 := (b9.cell (World.block_lt_of_cell? _ _ Q0.out)).trans Q0.out
        have x0 := (b9.cell (World.block_lt_of_cell? _ _ X0.out)).trans X0.out
        have x1 := (b9.cell (World.block_lt_of_cell? _ _ X1.out)).trans X1.out
        clear b9
        go_wp2_with fail
        have J1 := Lib.hid (fun v (hv : Below w9.heap.size w9 v) => K1.out v (B9.out.trans (hv.mono B9.out.size)))
        have J2 := Lib.hid (fun v (hv : Below w9.heap.size w9 v) => K2.out v (B9.out.trans (hv.mono B9.out.size)))
        have J3 := Lib.hid (fun v (hv : Below w9.heap.size w9 v) => K3.out v (B9.out.trans (hv.mono B9.out.size)))
        have J4 := Lib.hid (fun v (hv : Below w9.heap.size w9 v) => K4.out v (B9.out.trans (hv.mono B9.out.size)))
        have J5 := Lib.hid (fun v (hv : Below w9.heap.size w9 v) => K5.out v (B9.out.trans (hv.mono B9.out.size)))
        clear K1 K2 K3 K4 K5
        refine wp_region_quiet (C := fun w' => Below w9.heap.size w9 w') (by kernel_rfl) (by kernel_rfl) ((Below.refl _ _).drew) ?_
        try dsimp only [List.append]
        repeat (
          with_reducible refine wpQuiet_step (fun K hK => ?_)
          go_simp
          first
            | (with_reducible refine hK _ ?_; clear hK K)
            | (refine hK _ ?_; clear hK K)
            | (apply Exists.intro
               refine ⟨fun v hv => ?_, hK _ ?_⟩
               (first
                 | with_reducible rfl
                 | (with_reducible show Calls _ _ _ _ _
                    first
                      | with_reducible refine Calls.mono (J1.out _ hv) ?_
                      | with_reducible refine Calls.mono (J2.out _ hv) ?_
                      | with_reducible refine Calls.mono (J3.out _ hv) ?_
                      | with_reducible refine Calls.mono (J4.out _ hv) ?_
                      | with_reducible refine Calls.mono (J5.out _ hv) ?_
                    rintro e w' ⟨rfl, hb⟩
                    exact ⟨rfl, hv.trans (hb.mono hv.size)⟩)
                 | (have d0 := (hv.cell (World.block_lt_of_cell? _ _ p0)).trans p0
                    have d1 := (hv.cell (World.block_lt_of_cell? _ _ q0)).trans q0
                    have d2 := (hv.cell (World.block_lt_of_cell? _ _ x0)).trans x0
                    have d3 := (hv.cell (World.block_lt_of_cell? _ _ x1)).trans x1
                    go_simp
                    with_reducible rfl))
               clear hK K))
        refine wpQuiet_nil ?_
        intro we be
        have BE := Lib.hid (B9.out.trans (be.mono B9.out.size))
        clear be p0 q0 x0 x1
        go_wp2
        go_ret
        exact ⟨by first | rfl | simp, RES.out _ BE.out⟩
theorem CellOrder_int (w : World) (fine : Int) (v v' : Value) (ls ms : List Int) (hfi : 0 ≤ fine ∧ fine ≤ 255) (hv : NRow .i64 w v ls) (hi : ∀ x ∈ ls, I64 x) (hv' : NRow .i64 w v' ms) (hi' : ∀ x ∈ ms, I64 x) :
    Calls Try.prog 6 #[.int .u8 fine, v, v'] w fun e w' => e = .returned (.bool true) ∧ Below w.heap.size w w' := by
  obtain ⟨m, rfl⟩ := Int.eq_ofNat_of_zero_le hfi.1
  exact CellOrder_any w m v v' ls ms (by omega) hv hi hv' hi'
end Go.Proofs.Ytgafnilcmhjpcaa.HCell
