/- Several texts in one: Two cells, the program's and the reference's, side by side: contracts. Conditions: what cells hold. CellPlays: cells take, and are merged, copied, moved, deed by deed, as the chapter says. Conditions: the row's own. -/
import Derived.Test.YtgafnilcmhjpcaaCellAlike
import Derived.Test.YtgafnilcmhjpcaaSamePair
import Derived.Test.YtgafnilcmhjpcaaCellEx
import Derived.Deep.RegionHeld3
namespace Go.Proofs.Ytgafnilcmhjpcaa.HCell
set_option linter.unusedVariables false
open Go.RowKit Go.Proofs.Ytgafnilcmhjpcaa.HMem Go.Proofs.Ytgafnilcmhjpcaa.HHist Go.Proofs.Ytgafnilcmhjpcaa.HWide
open Go.Proofs.Ytgafnilcmhjpcaa.Print (I64)

/-- Both, apart, from some place on. -/
structure CPQ (B : Nat) (w : World) (p q : Nat) (G F : List Nat) (c d : CM) : Prop where
  h : CellAt w p G c
  x : RCellAt w q F d
  ho : COk c
  xo : COk d
  own : Own B w (G ++ F)
theorem CPQ.mono {B : Nat} {w w' : World} {p q : Nat} {G F : List Nat} {c d : CM} (h : CPQ B w p q G F c d) (k : Below w.heap.size w w') : CPQ B w' p q G F c d :=
  ⟨h.h.mono k, h.x.mono k, h.ho, h.xo, h.own.size k.size⟩
theorem CPQ.keep {B C : Nat} {w w' : World} {p q : Nat} {G F : List Nat} {c d : CM} (h : CPQ B w p q G F c d) (k : Below C w w') (hC : ∀ g ∈ G ++ F, g < C) : CPQ B w' p q G F c d :=
  ⟨h.h.same fun g hg => k.block g (hC g (List.mem_append_left _ hg)), h.x.same fun g hg => k.block g (hC g (List.mem_append_right _ hg)), h.ho, h.xo, h.own.size k.size⟩
theorem CPQ.base {B : Nat} {w : World} {p q : Nat} {G F : List Nat} {c d : CM} (h : CPQ B w p q G F c d) : B ≤ w.heap.size := by
  obtain ⟨v, R, rfl, _⟩ := h.h.ex
  have := h.own.mem p (by simp)
  omega
theorem cq_addh {B : Nat} {w : World} {p q : Nat} {G F : List Nat} {c d : CM} (h : CPQ B w p q G F c d) (n : Int) (hn : I64 n) (hB : B ≤ w.heap.size) :
    Calls Try.prog 24 #[.pointer (some ⟨p, 0, none⟩), .int .i64 n] w fun e w' => e = .returned (.int .i64 (addC c n).2) ∧ ∃ G', CPQ B w' p q G' F (addC c n).1 d ∧ Turn G G' w w' := by
  refine (HCell.Add_any h.h h.ho n hn).mono ?_
  rintro e w' ⟨rfl, G', k1, k2⟩
  exact ⟨rfl, G', ⟨k1, h.x.same (k2.same h.own), h.ho.add hn, h.xo, k2.own h.own hB k1.own⟩, k2⟩
theorem cq_addx {B : Nat} {w : World} {p q : Nat} {G F : List Nat} {c d : CM} (h : CPQ B w p q G F c d) (n : Int) (hn : I64 n) (hB : B ≤ w.heap.size) :
    Calls Try.prog 11 #[.pointer (some ⟨q, 0, none⟩), .int .i64 n] w fun e w' => e = .returned (.int .i64 (addC d n).2) ∧ ∃ F', CPQ B w' p q G F' c (addC d n).1 ∧ Turn F F' w w' := by
  refine (rcAdd_any h.x h.xo n hn).mono ?_
  rintro e w' ⟨rfl, F', k1, k2⟩
  exact ⟨rfl, F', ⟨h.h.same (k2.same' h.own), k1, h.ho, h.xo.add hn, k2.own' h.own hB k1.own⟩, k2⟩
theorem cq_mergeh {B C : Nat} {w : World} {p q : Nat} {G F : List Nat} {c d : CM} (h : CPQ B w p q G F c d) {p2 q2 : Nat} {G2 F2 : List Nat} {c2 d2 : CM} (k : CPQ C w p2 q2 G2 F2 c2 d2) (hC : ∀ g ∈ G ++ F, g < C) (hB : B ≤ w.heap.size) :
    Calls Try.prog 29 #[.pointer (some ⟨p, 0, none⟩), .pointer (some ⟨p2, 0, none⟩)] w fun e w' => e = .returned (.int .i64 (mergeC c c2).2) ∧ ∃ G', CPQ B w' p q G' F (mergeC c c2).1 d ∧ RCellAt w' q2 F2 d2 ∧ Turn G G' w w' := by
  refine (HCell.Merge_any h.h k.h h.ho k.ho fun x hx hx2 => ?_).mono ?_
  · have h1 := hC x (List.mem_append_left _ hx)
    have h2 := (k.own.mem x (List.mem_append_left _ hx2)).1
    omega
  rintro e w' ⟨rfl, G', k1, k2⟩
  refine ⟨rfl, G', ⟨k1, h.x.same (k2.same h.own), h.ho.merge k.ho, h.xo, k2.own h.own hB k1.own⟩, k.x.same fun g hg => ?_, k2⟩
  have h2 := k.own.mem g (List.mem_append_right _ hg)
  exact k2.chg.block g h2.2 fun h' => by have := hC g (List.mem_append_left _ h'); omega
theorem cq_mergex {B : Nat} {w : World} {p q : Nat} {G F : List Nat} {c d : CM} (h : CPQ B w p q G F c d) {q2 : Nat} {F2 : List Nat} {d2 : CM} (k : RCellAt w q2 F2 d2) (ko : COk d2) (hF : ∀ x ∈ F, x ∉ F2) (hB : B ≤ w.heap.size) :
    Calls Try.prog 33 #[.pointer (some ⟨q, 0, none⟩), .pointer (some ⟨q2, 0, none⟩)] w fun e w' => e = .returned (.int .i64 (mergeC d d2).2) ∧ ∃ F', CPQ B w' p q G F' c (mergeC d d2).1 ∧ Turn F F' w w' := by
  refine (rcMerge_any h.x k h.xo ko hF).mono ?_
  rintro e w' ⟨rfl, F', k1, k2⟩
  exact ⟨rfl, F', ⟨h.h.same (k2.same' h.own), k1, h.ho, h.xo.merge ko, k2.own' h.own hB k1.own⟩, k2⟩
theorem CPQ.new {w w1 w2 : World} {p q : Nat} {G F : List Nat} {c : CM} (h : CellAt w1 p G c) (k : RCellAt w2 q F c) (ho : COk c) (hG : ∀ g ∈ G, w.heap.size ≤ g) (hF : ∀ g ∈ F, w1.heap.size ≤ g) (b1 : Below w.heap.size w w1) (b2 : Below w1.heap.size w1 w2) : CPQ w.heap.size w2 p q G F c c := by
  refine ⟨h.mono b2, k, ho, ho, ⟨List.nodup_append.2 ⟨h.own.nodup, k.own.nodup, fun x hx y hy e => ?_⟩, fun g hg => ?_⟩⟩
  · have h1 := (h.own.mem x hx).2
    have h2 := hF y hy
    omega
  · have e1 := b1.size
    have e2 := b2.size
    rcases List.mem_append.1 hg with hg | hg
    · exact ⟨hG g hg, Nat.lt_of_lt_of_le (h.own.mem g hg).2 e2⟩
    · exact ⟨Nat.le_trans e1 (hF g hg), (k.own.mem g hg).2⟩
end Go.Proofs.Ytgafnilcmhjpcaa.HCell
namespace Go.Proofs.Ytgafnilcmhjpcaa.HCell
set_option linter.unusedVariables false
open Go.RowKit Go.Proofs.Ytgafnilcmhjpcaa.HMem Go.Proofs.Ytgafnilcmhjpcaa.HHist Go.Proofs.Ytgafnilcmhjpcaa.HWide
open Go.Proofs.Ytgafnilcmhjpcaa.Print (I64)

theorem bits5 (x : Int) : ∃ b : Nat, wrap64 ((IntKind.u64.wrap x).tmod 5) = (b : Int) ∧ b ≤ 4 := by
  have h1 : 0 ≤ IntKind.u64.wrap x := by
    unfold IntKind.wrap; simp [IntKind.signed, IntKind.bits]; omega
  have h2 := Int.emod_nonneg (IntKind.u64.wrap x) (show (5 : Int) ≠ 0 by decide)
  have h3 := Int.emod_lt_of_pos (IntKind.u64.wrap x) (show (0 : Int) < 5 by decide)
  rw [Int.tmod_eq_emod_of_nonneg h1]
  refine ⟨(IntKind.u64.wrap x % 5).toNat, ?_, by omega⟩
  unfold wrap64
  omega
/-- A deed's variable. -/
def DC (u : World) (X K : Nat) (dn : Int) (dla : Option Addr) (zn dlc : Nat) (db : Int) : Prop :=
  u.cell? ⟨X, 0, none⟩ = some (.int .u8 K) ∧ u.cell? ⟨X, 1, none⟩ = some (.int .i64 dn) ∧ u.cell? ⟨X, 2, none⟩ = some (.slice dla zn dlc) ∧ u.cell? ⟨X, 3, none⟩ = some (.int .i64 db)
theorem DC.bel {u u' : World} {X K : Nat} {dn : Int} {dla : Option Addr} {zn dlc : Nat} {db : Int} (h : DC u X K dn dla zn dlc db) (k : Below u.heap.size u u') : DC u' X K dn dla zn dlc db := by
  obtain ⟨h0, h1, h2, h3⟩ := h
  exact ⟨(k.cell (World.block_lt_of_cell? _ _ h0)).trans h0, (k.cell (World.block_lt_of_cell? _ _ h1)).trans h1, (k.cell (World.block_lt_of_cell? _ _ h2)).trans h2, (k.cell (World.block_lt_of_cell? _ _ h3)).trans h3⟩
theorem DC.low {C : Nat} {u u' : World} {X K : Nat} {dn : Int} {dla : Option Addr} {zn dlc : Nat} {db : Int} (h : DC u X K dn dla zn dlc db) (k : Below C u u') (hX : X < C) : DC u' X K dn dla zn dlc db := by
  obtain ⟨h0, h1, h2, h3⟩ := h
  have e : ∀ i, u'.cell? ⟨X, i, none⟩ = u.cell? ⟨X, i, none⟩ := fun i => World.cell?_of_block (a := ⟨X, i, none⟩) (k.block X hX)
  exact ⟨(e 0).trans h0, (e 1).trans h1, (e 2).trans h2, (e 3).trans h3⟩
theorem DC.turn {u u' : World} {X K : Nat} {dn : Int} {dla : Option Addr} {zn dlc : Nat} {db : Int} {G G' : List Nat} (h : DC u X K dn dla zn dlc db) (k : Turn G G' u u') (hX : X ∉ G) : DC u' X K dn dla zn dlc db := by
  obtain ⟨h0, h1, h2, h3⟩ := h
  have e : ∀ i, u'.cell? ⟨X, i, none⟩ = u.cell? ⟨X, i, none⟩ := fun i => World.cell?_of_block (a := ⟨X, i, none⟩) (k.chg.block X (World.block_lt_of_cell? _ _ h0) hX)
  exact ⟨(e 0).trans h0, (e 1).trans h1, (e 2).trans h2, (e 3).trans h3⟩
theorem deed_new (w : World) (cs : Array Value) (t : TypeId) (i : Nat) (v : Value) (h : cs[i]? = some v) : (w.alloc (.cells cs t)).cell? ⟨w.heap.size, i, none⟩ = some v := cell_of (heap_alloc_new w (.cells cs t)) i v h
set_option maxHeartbeats 16000000 in
set_option maxRecDepth 20000 in
theorem CellPlays_any (fr fine : Int) (near : Bool) (v : Value) (n : Nat) (D : Nat → Hd) (tgt : Int) (hfr : I64 fr) (hfine : I64 fine) (htgt : I64 tgt) (w : World) (hd : HRow w v n D) (hn : n ≤ 9223372036854775807) :
    Calls Try.prog 7 #[.int .i64 fr, .int .i64 fine, .bool near, v, .int .i64 tgt] w fun e w' => e = .returned (.bool true) ∧ Below w.heap.size w w' := by
  obtain ⟨⟨av, cv, rfl, hrow⟩, hok⟩ := hd
  have HROW := Lib.hid hrow
  have HOKD := Lib.hid hok
  have hbits1 : -9223372036854775808 ≤ fine ∧ fine ≤ 9223372036854775807 := hfine
  have HQ := Lib.hid hn
  have HFR := Lib.hid hfr
  have HTG := Lib.hid htgt
  clear hrow hok hn hfine hfr htgt
  go_enter Try.func7, Try.ntmps7
  go_wp2_with fail
  refine (examples_any _).mono ?_
  rintro e w0 ⟨rfl, b0⟩
  have B0 := Lib.hid b0
  clear b0
  cases near
  case' true =>
    go_wp2_with fail
    obtain ⟨b, eb, hb4⟩ := bits5 fine
    rw [eb]
    clear eb hbits1
  case' false =>
    by_cases hb : 0 ≤ fine ∧ fine ≤ 4
    rotate_left
    · go_wp2_with fail
      refine (New_no _ _ _ (by omega)).mono ?_
      rintro e w1 ⟨rfl, b1⟩
      have B1 := Lib.hid (B0.out.trans (b1.mono B0.out.size))
      clear b1
      go_wp2_with fail
      refine (rcNew_no _ _ _ (by omega)).mono ?_
      rintro e w2 ⟨rfl, b2⟩
      have B2 := Lib.hid (B1.out.trans (b2.mono B1.out.size))
      clear hb b2
      go_wp2
      go_ret
      exact ⟨by first | rfl | simp, B2.out⟩
    obtain ⟨b, rfl⟩ : ∃ b : Nat, fine = b := ⟨fine.toNat, by omega⟩
    have hb4 : b ≤ 4 := by omega
    clear hb hbits1
    go_wp2_with fail
  all_goals
    refine (New_yes fr b w0 hb4).mono ?_
    rintro e w1 ⟨p, G0, rfl, h1, g1, b1⟩
    have H1 := Lib.hid h1
    have G1 := Lib.hid g1
    have B1 := Lib.hid b1
    clear h1 g1 b1
    go_wp2_with fail
    refine (rcNew_yes fr b w1 hb4).mono ?_
    rintro e w2 ⟨q, F0, rfl, x1, g2, b2⟩
    obtain ⟨B, hB⟩ : ∃ B, B = w0.heap.size := ⟨_, rfl⟩
    have PQ2 := Lib.hid (show CPQ B w2 p q G0 F0 (newC fr b) (newC fr b) by rw [hB]; exact CPQ.new H1.out x1 (COk.new fr b HFR.out hb4) G1.out g2 B1.out b2)
    have HBW := Lib.hid (show w.heap.size ≤ B by rw [hB]; exact B0.out.size)
    have B2 := Lib.hid (show Below w.heap.size w w2 from B0.out.trans ((B1.out.trans (b2.mono B1.out.size)).mono B0.out.size))
    clear x1 g2 b2 hB H1 B1 G1
    go_wp2_with fail
    go_loopw [15] (fun i wr => ∃ (k : Nat) (G F : List Nat) (c : CM), k ≤ n ∧ k ≤ 50 ∧ i = .int .i64 k ∧ CPQ B wr p q G F c c ∧ Below w.heap.size w wr) (fun i _ => 50 - (intOf i).toNat)
    case atStart => exact ⟨0, _, _, _, by omega, by omega, rfl, PQ2.out, B2.out⟩
    case round =>
      obtain ⟨k, G, F, c, hk, hk3, rfl, pk, bk⟩ := hrel
      have PK := Lib.hid pk
      have BK := Lib.hid bk
      clear pk bk
      by_cases hlt : k < n ∧ k < 50
      · have hk1 : (k : Int) < n := by omega
        have hk2 : (k : Int) < 50 := by omega
        obtain ⟨ad, rfl, hcell⟩ : ∃ ad, av = some ad ∧ ∀ j u, (D k).cs[j]? = some u → wr.cell? ((ad.add (k * 4)).add j) = some u := by
          rcases HROW.out with h0 | ⟨ad, h, hc⟩
          · omega
          · exact ⟨ad, h, fun j u hu => by
              have h1 := hc k hlt.1 j u hu
              exact (BK.out.cell (World.block_lt_of_cell? _ _ h1)).trans h1⟩
        have hdk := HOKD.out k hlt.1
        obtain ⟨d, hd⟩ : ∃ d, d = D k := ⟨_, rfl⟩
        rw [← hd] at hcell hdk
        obtain ⟨dk, dn, dla, dlc, dz, db⟩ := d
        have c0 : wr.cell? (ad.add (k * 4)) = some (.int .u8 dk) := hcell 0 _ rfl
        have c1 : wr.cell? { block := (ad.add (k * 4)).block, off := (ad.add (k * 4)).off + 1 } = some (.int .i64 dn) := hcell 1 _ rfl
        have c2 : wr.cell? { block := (ad.add (k * 4)).block, off := (ad.add (k * 4)).off + 2 } = some (.slice dla dz.length dlc) := hcell 2 _ rfl
        have c3 : wr.cell? { block := (ad.add (k * 4)).block, off := (ad.add (k * 4)).off + 3 } = some (.int .i64 db) := hcell 3 _ rfl
        obtain ⟨⟨hk0, hk256⟩, hdn, hdb, hnr, hzs⟩ := hdk
        obtain ⟨K, rfl⟩ : ∃ K : Nat, dk = K := ⟨dk.toNat, by simp at hk0; omega⟩
        have DN := Lib.hid (show I64 dn from hdn)
        have DB := Lib.hid (show I64 db from hdb)
        have NR := Lib.hid (show NRow .i64 w (.slice dla dz.length dlc) dz from hnr)
        have ZS := Lib.hid (show ∀ x ∈ dz, I64 x from hzs)
        have HK := Lib.hid (show K < 256 by simp at hk256; omega)
        have HLT := Lib.hid hlt
        obtain ⟨zn, hzn⟩ : ∃ zn, zn = dz.length := ⟨_, rfl⟩
        rw [← hzn] at NR c2
        have HZN := Lib.hid hzn
        obtain ⟨c8, hc⟩ : ∃ c : Nat, c = K % 8 := ⟨_, rfl⟩
        have tm : (K : Int) % 8 = (c8 : Int) := by omega
        clear hd hcell hk0 hk256 hdn hdb hnr hzs hlt hzn hc
        obtain ⟨X, hX⟩ : ∃ X, X = wr.heap.size := ⟨_, rfl⟩
        obtain ⟨W, hW⟩ : ∃ W, W = wr.alloc (.cells #[.int .u8 K, .int .i64 dn, .slice dla zn dlc, .int .i64 db] 66) := ⟨_, rfl⟩
        have BW := Lib.hid (show Below wr.heap.size wr W by rw [hW]; exact (Below.refl _ _).alloc (Nat.le_refl _) _)
        have XW := Lib.hid (show DC W X K dn dla zn dlc db by rw [hW, hX]; exact ⟨deed_new _ _ _ _ _ rfl, deed_new _ _ _ _ _ rfl, deed_new _ _ _ _ _ rfl, deed_new _ _ _ _ _ rfl⟩)
        have PW := Lib.hid (PK.out.mono BW.out)
        have HXG := Lib.hid (show ∀ g ∈ G ++ F, g < X from fun g hg => by rw [hX]; exact (PK.out.own.mem g hg).2)
        have BKW := Lib.hid (BK.out.trans (BW.out.mono BK.out.size))
        have WW := Lib.hid hW
        have HXX := Lib.hid hX
        clear hW hX
        by_cases hc6 : c8 = 6
        rotate_left
        · have t6 : ((c8 : Int) != 6) = true := by rw [bne_iff_ne]; omega
          have hne : ((addC c dn).2 != (addC c dn).2) = false := by simp
          clear hc6
          go_wp2_with fail
          rw [← HXX.out, ← WW.out]
          clear c0 c1 c2 c3
          have PD := Lib.hid (show CPQ B W.drew p q G F c c from PW.out.mono (Below.refl _ _).drew)
          have HD0 := Lib.hid (show DC W.drew X K dn dla zn dlc db from XW.out)
          go_region_held3 (fun u => u.cell? ⟨X, 0, none⟩ = some (.int .u8 K) ∧ u.cell? ⟨X, 1, none⟩ = some (.int .i64 dn) ∧ u.cell? ⟨X, 2, none⟩ = some (.slice dla zn dlc) ∧ u.cell? ⟨X, 3, none⟩ = some (.int .i64 db))
            (first
              | exact XB.out
              | exact XA.out
              | exact HD0.out
              | fail)
            ((first
              | (go_at_call 11; refine Calls.mono (cq_addx PA.out dn DN.out PA.out.base) ?_; rintro e wB ⟨rfl, F', pB, tB⟩; have PB := Lib.hid pB; have TB := Lib.hid tB; have XB := Lib.hid (XA.out.turn tB (fun h => absurd (HXG.out X (List.mem_append_right _ h)) (Nat.lt_irrefl _))); clear pB tB)
              | (go_at_call 24; refine Calls.mono (cq_addh PD.out dn DN.out PD.out.base) ?_; rintro e wA ⟨rfl, G', pA, tA⟩; have PA := Lib.hid pA; have TA := Lib.hid tA; have XA := Lib.hid (HD0.out.turn tA (fun h => absurd (HXG.out X (List.mem_append_left _ h)) (Nat.lt_irrefl _))); clear pA tA)
              | fail))
          all_goals
            have bA := TA.out.bel (PD.out.own.left.base HBW.out) (show Below w.heap.size w W.drew from BKW.out.trans ((Below.refl _ _).drew)) BKW.out.size
            have bB := Lib.hid (TB.out.bel (PA.out.own.right.base HBW.out) bA bA.size)
            clear bA
            go_wp2
            go_roundw
            case rel => exact ⟨k + 1, G', F', _, by have := HLT.out; omega, by have := HLT.out; omega, by go_num, PB.out, bB.out⟩
            case measure => have := HLT.out; simp [intOf]; omega
        · obtain rfl : c8 = 6 := hc6
          by_cases h8 : db.tmod 8 = 0
          case' pos =>
            have e8 : (db.tmod 8 == 0) = true := by rw [h8]; rfl
            clear h8
            go_wp2_with fail
            rw [← HXX.out, ← WW.out]
            clear c0 c1 c2 c3 e8
            obtain ⟨cb, ecb, hcb4⟩ := bits5 db
            rw [ecb]
            clear ecb
          case' neg =>
            have e8 : (db.tmod 8 == 0) = false := by rw [beq_eq_false_iff_ne]; exact h8
            clear h8
            go_wp2_with fail
            rw [← HXX.out, ← WW.out]
            clear c0 c1 c2 c3 e8
            obtain ⟨cb, hcb⟩ : ∃ cb, cb = b := ⟨_, rfl⟩
            have hcb4 : cb ≤ 4 := by omega
            rw [← hcb]
            have HCB := Lib.hid hcb
            clear hcb
          all_goals
            refine (New_yes dn cb W hcb4).mono ?_
            rintro e w3 ⟨p2, G3, rfl, h3, g3, b3⟩
            have H3 := Lib.hid h3
            have B3 := Lib.hid b3
            have G3' := Lib.hid g3
            have X3 := Lib.hid (XW.out.bel b3)
            clear h3 b3 g3
            obtain ⟨x0, x1, x2, x3⟩ := X3.out
            go_wp2_with fail
            refine (rcNew_yes dn cb w3 hcb4).mono ?_
            rintro e w4 ⟨q2, F3, rfl, x4, g4, b4⟩
            obtain ⟨C, hC⟩ : ∃ C, C = W.heap.size := ⟨_, rfl⟩
            have P4 := Lib.hid (show CPQ C w4 p2 q2 G3 F3 (newC dn cb) (newC dn cb) by rw [hC]; exact CPQ.new H3.out x4 (COk.new dn cb DN.out hcb4) G3'.out g4 B3.out b4)
            have B4 := Lib.hid (show Below C W w4 by rw [hC]; exact B3.out.trans (b4.mono B3.out.size))
            have HC := Lib.hid hC
            clear x4 b4 g4 hC H3 B3 G3' X3 x0 x1 x2 x3
            have HGC := Lib.hid (show ∀ g ∈ G ++ F, g < C from fun g hg => by rw [HC.out]; exact Nat.lt_of_lt_of_le (PK.out.own.mem g hg).2 BW.out.size)
            have HXC := Lib.hid (show X < C by rw [HC.out]; exact World.block_lt_of_cell? _ _ XW.out.1)
            obtain ⟨x0, x1, x2, x3⟩ := XW.out.low B4.out HXC.out
            go_wp2_with fail
            clear x0 x1 x2 x3
            go_loopw [21] (fun i wr => ∃ (j : Nat) (G2 F2 : List Nat) (d : CM), i = .int .i64 j ∧ j ≤ zn ∧ j ≤ 6 ∧ CPQ C wr p2 q2 G2 F2 d d ∧ Below C w4 wr) (fun i _ => 6 - (intOf i).toNat)
            case atStart => exact ⟨0, _, _, _, rfl, by omega, by omega, P4.out, Below.refl _ _⟩
            case round =>
              obtain ⟨j, G2, F2, d, rfl, hj, hj6, p2k, bb⟩ := hrel
              have P2 := Lib.hid p2k
              have BB := Lib.hid bb
              have XR := Lib.hid (show DC wr X K dn dla zn dlc db from XW.out.low (B4.out.trans bb) HXC.out)
              obtain ⟨x0, x1, x2, x3⟩ := XR.out
              clear p2k bb
              by_cases hlt2 : j < zn ∧ j < 6
              · obtain ⟨hl1, hl2⟩ := hlt2
                have q1 : (j : Int) < zn := by omega
                have q2' : (j : Int) < 6 := by omega
                obtain ⟨y, hy⟩ : ∃ y, dz[j]? = some y := ⟨_, List.getElem?_eq_getElem (by rw [← HZN.out]; exact hl1)⟩
                obtain ⟨a', rfl, hya⟩ : ∃ a', dla = some a' ∧ w.cell? (a'.add j) = some (.int .i64 y) := by
                  obtain ⟨a1, c1, e1, _, _, h4⟩ := NR.out.form
                  cases e1
                  exact h4 j y hy
                have hyi := Lib.hid (ZS.out y (List.mem_of_getElem? hy))
                have HCL := Lib.hid (show (a'.add j).block < C from Nat.lt_of_lt_of_le (World.block_lt_of_cell? _ _ hya) (Nat.le_trans BKW.out.size (Nat.le_of_eq HC.out.symm)))
                have c0 : wr.cell? (a'.add j) = some (.int .i64 y) := by
                  have h1 := (BKW.out.cell (World.block_lt_of_cell? _ _ hya)).trans hya
                  exact ((B4.out.trans BB.out).cell HCL.out).trans h1
                have HLT2 := Lib.hid (And.intro hl1 hl2)
                have HXA := Lib.hid (show ∀ g ∈ G2 ++ F2, g ≠ X ∧ g ≠ (a'.add j).block from fun g hg => by have h1 := (P2.out.own.mem g hg).1; have h2 := HXC.out; have h3 := HCL.out; omega)
                have C0 := Lib.hid c0
                clear hy hya hl1 hl2
                go_wp2_with fail
                refine (cq_addh P2.out y hyi.out P2.out.base).mono ?_
                rintro e u2 ⟨rfl, G5, p5, t5⟩
                have P5 := Lib.hid p5
                have BT2 := Lib.hid (t5.bel P2.out.own.left BB.out P2.out.base)
                have XR2 := Lib.hid (XR.out.turn t5 (fun h => (HXA.out X (List.mem_append_left _ h)).1 rfl))
                have C2 := Lib.hid ((World.cell?_of_block (t5.chg.block _ (World.block_lt_of_cell? _ _ C0.out) fun h => (HXA.out _ (List.mem_append_left _ h)).2 rfl)).trans C0.out)
                clear p5 t5 x0 x1 x2 x3 c0
                obtain ⟨x0, x1, x2, x3⟩ := XR2.out
                have c0 := C2.out
                go_wp2_with fail
                refine (cq_addx P5.out y hyi.out P5.out.base).mono ?_
                rintro e u3 ⟨rfl, F5, p6, t6⟩
                have P6 := Lib.hid p6
                have BT3 := Lib.hid (t6.bel P5.out.own.right BT2.out P5.out.base)
                clear p6 t6 x0 x1 x2 x3 c0
                go_wp2
                go_roundw
                case rel => exact ⟨j + 1, G5, F5, _, by go_num, by have := HLT2.out; omega, by have := HLT2.out; omega, P6.out, BT3.out⟩
                case measure => have := HLT2.out; simp [intOf]; omega
              have P1 := Lib.hid (PW.out.keep (B4.out.trans BB.out) HGC.out)
              have BR := Lib.hid (BKW.out.trans ((B4.out.trans BB.out).mono (Nat.le_trans BKW.out.size (Nat.le_of_eq HC.out.symm))))
              have HFF := Lib.hid (show ∀ x ∈ F, x ∉ F2 from fun x hx hm => by have h1 := HGC.out x (List.mem_append_right _ hx); have h2 := (P2.out.own.mem x (List.mem_append_right _ hm)).1; omega)
              have hme : ((mergeC c d).2 != (mergeC c d).2) = false := by simp
              by_cases hl1 : j < zn
              case' pos =>
                obtain rfl : j = 6 := by omega
                have q1 : (6 : Int) < zn := by omega
                clear hlt2 hl1
                go_wp2_with fail
              case' neg =>
                obtain rfl : j = zn := by omega
                clear hlt2 hl1 hj
                go_wp2_with fail
              all_goals
                refine (cq_mergeh P1.out P2.out HGC.out P1.out.base).mono ?_
                rintro e wm ⟨rfl, G5, pm, xm, tm'⟩
                have PM := Lib.hid pm
                have XM := Lib.hid xm
                have BM := Lib.hid (tm'.bel (P1.out.own.left.base HBW.out) BR.out BR.out.size)
                clear pm xm tm' x0 x1 x2 x3
                go_wp2_with fail
                refine (cq_mergex PM.out XM.out P2.out.xo HFF.out PM.out.base).mono ?_
                rintro e wn ⟨rfl, F5, pn, tn⟩
                have PN := Lib.hid pn
                have BN := Lib.hid (tn.bel (PM.out.own.right.base HBW.out) BM.out BM.out.size)
                clear pn tn
                go_wp2
                try rw [HCB.out]
                go_roundw
                case rel => exact ⟨k + 1, G5, F5, _, by have := HLT.out; omega, by have := HLT.out; omega, by go_num, PN.out, BN.out⟩
                case measure => have := HLT.out; simp [intOf]; omega
      by_cases hl1 : k < n
      case' pos =>
        obtain rfl : k = 50 := by omega
        have q1 : (50 : Int) < n := by omega
        clear hlt hl1
        go_wp2_with fail
      case' neg =>
        obtain rfl : k = n := by omega
        clear hlt hl1 hk
        go_wp2_with fail
      all_goals
        refine (alike_some PK.out.h PK.out.x PK.out.ho).mono ?_
        rintro e w5 ⟨rfl, b5⟩
        have P5 := Lib.hid (PK.out.mono b5)
        have B5 := Lib.hid (BK.out.trans (b5.mono BK.out.size))
        clear b5
        go_wp2_with fail
        refine (HCell.Move_any P5.out.h P5.out.ho tgt).mono ?_
        rintro e w6 ⟨p6, G6, rfl, k6, g6, b6⟩
        have P6 := Lib.hid (P5.out.mono b6)
        have B6 := Lib.hid (B5.out.trans (b6.mono B5.out.size))
        have K6 := Lib.hid k6
        clear b6 k6 g6
        go_wp2_with fail
        refine (rcMove_any P6.out.x P6.out.xo tgt).mono ?_
        rintro e w7 ⟨q7, F7, rfl, k7, g7, b7⟩
        have P7 := Lib.hid (P6.out.mono b7)
        have B7 := Lib.hid (B6.out.trans (b7.mono B6.out.size))
        have K67 := Lib.hid (K6.out.mono b7)
        have K7 := Lib.hid k7
        clear b7 k7 g7 K6
        go_wp2_with fail
        refine (alike_some K67.out K7.out (COk.move P7.out.ho HTG.out)).mono ?_
        rintro e w8 ⟨rfl, b8⟩
        have P8 := Lib.hid (P7.out.mono b8)
        have B8 := Lib.hid (B7.out.trans (b8.mono B7.out.size))
        clear b8 K67 K7
        go_wp2_with fail
        refine (HCell.Copy_any P8.out.h P8.out.ho).mono ?_
        rintro e w9 ⟨p9, G9, rfl, k9, g9, b9⟩
        have P9 := Lib.hid (P8.out.mono b9)
        have B9 := Lib.hid (B8.out.trans (b9.mono B8.out.size))
        have K9 := Lib.hid k9
        clear b9 k9 g9
        go_wp2_with fail
        refine (alike_some K9.out P9.out.x P9.out.ho).mono ?_
        rintro e wa ⟨rfl, ba⟩
        have PA := Lib.hid (P9.out.mono ba)
        have BA := Lib.hid (B9.out.trans (ba.mono B9.out.size))
        clear ba K9
        go_wp2_with fail
        obtain ⟨hx, RX, _, _, kbx, khx⟩ := PA.out.x.ex
        obtain ⟨q0, q1', _⟩ := kbx.cells
        obtain ⟨S, hS⟩ : ∃ S, S = strOfNums (encL c.b c.l) := ⟨_, rfl⟩
        have HSS := Lib.hid hS
        have KHX := Lib.hid khx
        have Q1 := Lib.hid q1'
        have tself := str_self S
        have KS := Lib.hid (show ∀ u, Below wa.heap.size wa u → Below wa.heap.size wa u ∧ u.cell? ⟨q, 1, none⟩ = some (.pointer (some ⟨hx, 0, none⟩)) from fun u hu => ⟨hu, (hu.cell (World.block_lt_of_cell? _ _ Q1.out)).trans Q1.out⟩)
        clear kbx khx q0 q1' hS
        go_region_held3 (fun u => Below wa.heap.size wa u ∧ u.cell? ⟨q, 1, none⟩ = some (.pointer (some ⟨hx, 0, none⟩)))
          (first
            | exact KS.out _ U5.out
            | exact KS.out _ U4.out
            | exact KS.out _ U3.out
            | exact KS.out _ U2.out
            | exact KS.out _ U1.out
            | exact KS.out _ (Below.refl _ _).drew
            | fail)
          ((first
            | (go_at_call 37; refine Calls.mono (HHist.rPut_any (KHX.out.mono U4.out) PA.out.xo.h) ?_; rintro e u5 ⟨rfl, b5⟩; have U5 := Lib.hid (U4.out.trans (b5.mono U4.out.size)); rw [← HSS.out]; clear b5)
            | (go_at_call 36; refine Calls.mono (HHist.Put_any K3.out PA.out.ho.h) ?_; rintro e u4 ⟨rfl, b4⟩; have U4 := Lib.hid (U3.out.trans (b4.mono U3.out.size)); rw [← HSS.out]; clear b4)
            | (go_at_call 25; refine Calls.mono (HCell.Spread_any (PA.out.h.mono U2.out) PA.out.ho) ?_; rintro e u3 ⟨p3, F3, rfl, k3, g3, b3⟩; have U3 := Lib.hid (U2.out.trans (b3.mono U2.out.size)); have K3 := Lib.hid k3; clear b3 k3 g3)
            | (go_at_call 27; refine Calls.mono (Same_yes (PA.out.h.mono U1.out) K1.out PA.out.ho PA.out.ho rfl) ?_; rintro e u2 ⟨rfl, b2⟩; have U2 := Lib.hid (U1.out.trans (b2.mono U1.out.size)); clear b2)
            | (go_at_call 23; refine Calls.mono (HCell.Copy_any (PA.out.h.mono (Below.refl _ _).drew) PA.out.ho) ?_; rintro e u1 ⟨p1, F1, rfl, k1, g1, b1⟩; have U1 := Lib.hid (show Below wa.heap.size wa u1 from ((Below.refl _ _).drew).trans b1); have K1 := Lib.hid k1; clear b1 k1 g1)
            | fail))
        all_goals
          have BE := Lib.hid (BA.out.trans (U5.out.mono BA.out.size))
          go_wp2
          go_ret
          exact ⟨by first | rfl | simp, BE.out⟩
end Go.Proofs.Ytgafnilcmhjpcaa.HCell
