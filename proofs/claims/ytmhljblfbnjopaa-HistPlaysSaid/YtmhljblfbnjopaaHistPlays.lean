/- HistPlays, walked. Conditions: the row's own. -/
import Derived.Test.YtmhljblfbnjopaaHistPair
import Derived.Deep.RegionHeld3
namespace Go.Proofs.Ytmhljblfbnjopaa.HHist
set_option linter.unusedVariables false
open Go.RowKit Go.Proofs.Ytmhljblfbnjopaa.HMem Go.Proofs.Ytmhljblfbnjopaa.HBucket Go.Proofs.Ytmhljblfbnjopaa.HApp
open Go.Proofs.Ytmhljblfbnjopaa.Print (I64)

theorem bits5 (x : Int) : ∃ b : Nat, wrap64 ((IntKind.u64.wrap x).tmod 5) = (b : Int) ∧ b ≤ 4 := by
  have h1 : 0 ≤ IntKind.u64.wrap x := by
    unfold IntKind.wrap; simp [IntKind.signed, IntKind.bits]; omega
  have h2 := Int.emod_nonneg (IntKind.u64.wrap x) (show (5 : Int) ≠ 0 by decide)
  have h3 := Int.emod_lt_of_pos (IntKind.u64.wrap x) (show (0 : Int) < 5 by decide)
  rw [Int.tmod_eq_emod_of_nonneg h1]
  refine ⟨(IntKind.u64.wrap x % 5).toNat, ?_, by omega⟩
  unfold wrap64
  omega
theorem PQ.base {B : Nat} {w : World} {p q b : Nat} {G F : List Nat} {l m : IL} (h : PQ B w p q b G F l m) : B ≤ w.heap.size := by
  obtain ⟨v, R, rfl, _⟩ := h.h.ex
  have := h.own.mem p (by simp)
  omega
/-- A deed's variable. -/
def DC (u : World) (X K : Nat) (dn : Int) (dla : Option Addr) (zn dlc : Nat) (db : Int) : Prop :=
  u.cell? ⟨X, 0, none⟩ = some (.int .u8 K) ∧ u.cell? ⟨X, 1, none⟩ = some (.int .i64 dn) ∧ u.cell? ⟨X, 2, none⟩ = some (.slice dla zn dlc) ∧ u.cell? ⟨X, 3, none⟩ = some (.int .i64 db)
theorem DC.bel {u u' : World} {X K : Nat} {dn : Int} {dla : Option Addr} {zn dlc : Nat} {db : Int} (h : DC u X K dn dla zn dlc db) (k : Below u.heap.size u u') : DC u' X K dn dla zn dlc db := by
  obtain ⟨h0, h1, h2, h3⟩ := h
  exact ⟨(k.cell (World.block_lt_of_cell? _ _ h0)).trans h0, (k.cell (World.block_lt_of_cell? _ _ h1)).trans h1, (k.cell (World.block_lt_of_cell? _ _ h2)).trans h2, (k.cell (World.block_lt_of_cell? _ _ h3)).trans h3⟩
theorem DC.low {C : Nat} {u u' : World} {X K : Nat} {dn : Int} {dla : Option Addr} {zn dlc : Nat} {db : Int} (h : DC u X K dn dla zn dlc db) (k : Below C u u') (hX : X < C) : DC u' X K dn dla zn dlc db := by
  obtain ⟨h0, h1, h2, h3⟩ := h
  have e : ∀ i, u'.cell? ⟨X, i, none⟩ = u.cell? ⟨X, i, none⟩ := fun i => World.cell?_of_block (a := ⟨X, i, none⟩) (k.block X hX)
  exact ⟨(e 0).trans h0, (e 1).trans h1, (e 2).trans h2, (e 3).trans h3⟩
theorem DC.turn {u u' : World} {X K : Nat} {dn : Int} {dla : Option Addr} {zn dlc : Nat} {db : Int} {G G' : List Nat} (h : DC u X K dn dla zn dlc db) (k : Turn G G' u u') (hX : X ∉ G) : DC u' X K dn dla zn dlc db := by
  obtain ⟨h0, h1, h2, h3⟩ := h
  have e : ∀ i, u'.cell? ⟨X, i, none⟩ = u.cell? ⟨X, i, none⟩ := fun i => World.cell?_of_block (a := ⟨X, i, none⟩) (k.chg.block X (World.block_lt_of_cell? _ _ h0) hX)
  exact ⟨(e 0).trans h0, (e 1).trans h1, (e 2).trans h2, (e 3).trans h3⟩
/-- A deed's variable, and a number of its row. -/
def DE (u : World) (X K : Nat) (dn : Int) (a' : Addr) (zn dlc : Nat) (db : Int) (j : Nat) (y : Int) : Prop := DC u X K dn (some a') zn dlc db ∧ u.cell? (a'.add j) = some (.int .i64 y)
section
variable {u u' : World} {X K : Nat} {dn : Int} {a' : Addr} {zn dlc : Nat} {db : Int} {j : Nat} {y : Int}
theorem DE.flat (h : DE u X K dn a' zn dlc db j y) : u.cell? ⟨X, 0, none⟩ = some (.int .u8 K) ∧ u.cell? ⟨X, 1, none⟩ = some (.int .i64 dn) ∧ u.cell? ⟨X, 2, none⟩ = some (.slice (some a') zn dlc) ∧ u.cell? ⟨X, 3, none⟩ = some (.int .i64 db) ∧ u.cell? (a'.add j) = some (.int .i64 y) :=
  ⟨h.1.1, h.1.2.1, h.1.2.2.1, h.1.2.2.2, h.2⟩
theorem DE.bel (h : DE u X K dn a' zn dlc db j y) (k : Below u.heap.size u u') : DE u' X K dn a' zn dlc db j y := ⟨h.1.bel k, (k.cell (World.block_lt_of_cell? _ _ h.2)).trans h.2⟩
theorem DE.turn {C : Nat} {G G' : List Nat} (h : DE u X K dn a' zn dlc db j y) (k : Turn G G' u u') (hG : ∀ g ∈ G, C ≤ g) (hX : X < C) (hA : (a'.add j).block < C) : DE u' X K dn a' zn dlc db j y :=
  ⟨h.1.turn k fun h => (by have := hG X h; omega), (World.cell?_of_block (k.chg.block _ (World.block_lt_of_cell? _ _ h.2) fun h => (by have := hG _ h; omega))).trans h.2⟩
end
set_option maxHeartbeats 16000000 in
set_option maxRecDepth 20000 in
theorem HistPlays_any (bits : Int) (hbits : I64 bits) (near : Bool) (v : Value) (n : Nat) (D : Nat → Hd) (r num den : Nat) (hr : r < 18446744073709551616) (hnum : num < 18446744073709551616) (hden : den < 18446744073709551616) (w : World) (hd : HRow w v n D) (hn : n ≤ 9223372036854775807) :
    Calls Try.prog 8 #[.int .i64 bits, .bool near, v, .int .u64 r, .int .u64 num, .int .u64 den] w fun e w' => e = .returned (.bool true) ∧ Below w.heap.size w w' := by
  obtain ⟨⟨av, cv, rfl, hrow⟩, hok⟩ := hd
  have HROW := Lib.hid hrow
  have HOKD := Lib.hid hok
  have hbits1 : -9223372036854775808 ≤ bits ∧ bits ≤ 9223372036854775807 := hbits
  have HQ := Lib.hid hn
  clear hrow hok hn hbits
  go_enter Try.func8, Try.ntmps8
  go_wp2_with fail
  refine (examples_any _).mono ?_
  rintro e w0 ⟨rfl, b0⟩
  have B0 := Lib.hid b0
  clear b0
  cases near
  case' true =>
    go_wp2_with fail
    obtain ⟨b, eb, hb4⟩ := bits5 bits
    rw [eb]
    obtain ⟨r2, hr2⟩ : ∃ r2 : Nat, r2 = r % 70 := ⟨_, rfl⟩
    obtain ⟨n2, hn2⟩ : ∃ n2 : Nat, n2 = num % 110 := ⟨_, rfl⟩
    obtain ⟨d2, hd2⟩ : ∃ d2 : Nat, d2 = den % 100 := ⟨_, rfl⟩
    rw [show (r : Int) % 70 = (r2 : Int) by omega, show (num : Int) % 110 = (n2 : Int) by omega, show (den : Int) % 100 = (d2 : Int) by omega]
    have hr' : r2 < 18446744073709551616 := by omega
    have hnum' : n2 < 18446744073709551616 := by omega
    have hden' : d2 < 18446744073709551616 := by omega
    clear hr hnum hden hr2 hn2 hd2 eb hbits1
    obtain ⟨r, rfl⟩ : ∃ r, r = r2 := ⟨_, rfl⟩
    obtain ⟨num, rfl⟩ : ∃ num, num = n2 := ⟨_, rfl⟩
    obtain ⟨den, rfl⟩ : ∃ den, den = d2 := ⟨_, rfl⟩
    have hr := hr'
    have hnum := hnum'
    have hden := hden'
    clear hr' hnum' hden'
  case' false =>
    by_cases hb : 0 ≤ bits ∧ bits ≤ 4
    rotate_left
    · go_wp2_with fail
      refine (New_no _ _ (by omega)).mono ?_
      rintro e w1 ⟨rfl, rfl⟩
      go_wp2_with fail
      refine (rNew_no _ _ (by omega)).mono ?_
      rintro e w1 ⟨rfl, rfl⟩
      clear hb
      go_wp2
      go_ret
      exact ⟨rfl, B0.out⟩
    obtain ⟨b, rfl⟩ : ∃ b : Nat, bits = b := ⟨bits.toNat, by omega⟩
    have hb4 : b ≤ 4 := by omega
    clear hb hbits1
    go_wp2_with fail
  all_goals
    refine (New_yes b _ hb4).mono ?_
    rintro e w1 ⟨rfl, h1, b1⟩
    obtain ⟨p, hp⟩ : ∃ p, p = w0.heap.size := ⟨_, rfl⟩
    rw [← hp] at h1 ⊢
    have H1 := Lib.hid h1
    have B1 := Lib.hid b1
    have HP := Lib.hid hp
    clear h1 b1 hp
    go_wp2_with fail
    refine (rNew_yes b _ hb4).mono ?_
    rintro e w2 ⟨rfl, x1, b2⟩
    obtain ⟨q, hq⟩ : ∃ q, q = w1.heap.size := ⟨_, rfl⟩
    rw [← hq] at x1 ⊢
    obtain ⟨B, hB⟩ : ∃ B, B = w0.heap.size := ⟨_, rfl⟩
    have PQ2 := Lib.hid (show PQ B w2 p q b [p] [q] [] [] by rw [hB]; exact PQ.new H1.out x1 hb4 HP.out hq B1.out b2)
    have HBW := Lib.hid (show w.heap.size ≤ B by rw [hB]; exact B0.out.size)
    have B2 := Lib.hid (show Below w.heap.size w w2 from B0.out.trans ((B1.out.trans (b2.mono B1.out.size)).mono B0.out.size))
    clear x1 b2 hq hB H1 B1 HP
    go_wp2_with fail
    go_loopw [17] (fun i wr => ∃ (k : Nat) (G F : List Nat) (l : IL), k ≤ n ∧ k ≤ 60 ∧ i = .int .i64 k ∧ PQ B wr p q b G F l l ∧ Below w.heap.size w wr) (fun i _ => 60 - (intOf i).toNat)
    case atStart => exact ⟨0, _, _, _, by omega, by omega, rfl, PQ2.out, B2.out⟩
    case round =>
      obtain ⟨k, G, F, l, hk, hk3, rfl, pk, bk⟩ := hrel
      have PK := Lib.hid pk
      have BK := Lib.hid bk
      clear pk bk
      by_cases hlt : k < n ∧ k < 60
      · have hk1 : (k : Int) < n := by omega
        have hk2 : (k : Int) < 60 := by omega
        obtain ⟨ad, rfl, hcell⟩ : ∃ ad, av = some ad ∧ ∀ j u, (D k).cs[j]? = some u → wr.cell? ((ad.add (k * 4)).add j) = some u := by
          rcases HROW.out with h0 | ⟨ad, h, hc⟩
          · omega
          · exact ⟨ad, h, fun j u hu => by
              have h1 := hc k hlt.1 j u hu
              exact (BK.out.cell (World.block_lt_of_cell? _ _ h1)).trans h1⟩
        have hdk := HOKD.out k hlt.1
        obtain ⟨d, hd⟩ : ∃ d, d = D k := ⟨_, rfl⟩
        rw [← hd] at hcell hdk
        obtain ⟨dk, dn, dla, dlc, dz, db⟩ := d
        have c0 : wr.cell? (ad.add (k * 4)) = some (.int .u8 dk) := hcell 0 _ rfl
        have c1 : wr.cell? { block := (ad.add (k * 4)).block, off := (ad.add (k * 4)).off + 1 } = some (.int .i64 dn) := hcell 1 _ rfl
        have c2 : wr.cell? { block := (ad.add (k * 4)).block, off := (ad.add (k * 4)).off + 2 } = some (.slice dla dz.length dlc) := hcell 2 _ rfl
        have c3 : wr.cell? { block := (ad.add (k * 4)).block, off := (ad.add (k * 4)).off + 3 } = some (.int .i64 db) := hcell 3 _ rfl
        obtain ⟨⟨hk0, hk256⟩, hdn, hdb, hnr, hzs⟩ := hdk
        obtain ⟨K, rfl⟩ : ∃ K : Nat, dk = K := ⟨dk.toNat, by simp at hk0; omega⟩
        have DN := Lib.hid (show I64 dn from hdn)
        have DB := Lib.hid (show I64 db from hdb)
        have NR := Lib.hid (show NRow .i64 w (.slice dla dz.length dlc) dz from hnr)
        have ZS := Lib.hid (show ∀ x ∈ dz, I64 x from hzs)
        have HK := Lib.hid (show K < 256 by simp at hk256; omega)
        have HLT := Lib.hid hlt
        obtain ⟨zn, hzn⟩ : ∃ zn, zn = dz.length := ⟨_, rfl⟩
        rw [← hzn] at NR c2
        have HZN := Lib.hid hzn
        obtain ⟨c, hc⟩ : ∃ c : Nat, c = K % 8 := ⟨_, rfl⟩
        have tm : (K : Int) % 8 = (c : Int) := by omega
        clear hd hcell hk0 hk256 hdn hdb hnr hzs hlt hzn hc
        obtain ⟨X, hX⟩ : ∃ X, X = wr.heap.size := ⟨_, rfl⟩
        obtain ⟨W, hW⟩ : ∃ W, W = wr.alloc (.cells #[.int .u8 K, .int .i64 dn, .slice dla zn dlc, .int .i64 db] 62) := ⟨_, rfl⟩
        have BW := Lib.hid (show Below wr.heap.size wr W by rw [hW]; exact (Below.refl _ _).alloc (Nat.le_refl _) _)
        have XW := Lib.hid (show DC W X K dn dla zn dlc db by rw [hW, hX]; exact ⟨by rw [new_cell]; rfl, by rw [new_cell]; rfl, by rw [new_cell]; rfl, by rw [new_cell]; rfl⟩)
        have PW := Lib.hid (PK.out.mono BW.out)
        have HXG := Lib.hid (show ∀ g ∈ G ++ F, g < X from fun g hg => by rw [hX]; exact (PK.out.own.mem g hg).2)
        have BKW := Lib.hid (BK.out.trans (BW.out.mono BK.out.size))
        have WW := Lib.hid hW
        have HXX := Lib.hid hX
        clear hW hX
        by_cases hc6 : c = 6
        rotate_left
        · have t6 : ((c : Int) != 6) = true := by rw [bne_iff_ne]; omega
          obtain ⟨z, hz⟩ : ∃ z, z = numZ K dn := ⟨_, rfl⟩
          have HZ := Lib.hid (show I64 z by rw [hz]; exact numZ_in K dn DN.out)
          have KN := Lib.hid (show ∀ v, Calls Try.prog 28 #[.agg #[.int .u8 K, .int .i64 dn, .slice dla zn dlc, .int .i64 db], .int .i64 dn] v fun e w' => e = .returned (.int .i64 z) ∧ Below v.heap.size v w' from fun v => by rw [hz]; exact number_any K HK.out dn dla zn dlc db dn DN.out v)
          have hne : ((addL b l z).2 != (addL b l z).2) = false := by simp
          clear hz hc6
          go_wp2_with fail
          rw [← HXX.out, ← WW.out]
          clear c0 c1 c2 c3
          have HD0 := Lib.hid (show DC W.drew X K dn dla zn dlc db from XW.out)
          go_region_held3 (fun u => u.cell? ⟨X, 0, none⟩ = some (.int .u8 K) ∧ u.cell? ⟨X, 1, none⟩ = some (.int .i64 dn) ∧ u.cell? ⟨X, 2, none⟩ = some (.slice dla zn dlc) ∧ u.cell? ⟨X, 3, none⟩ = some (.int .i64 db))
            (first
              | exact XD.out
              | exact XC.out
              | exact XB.out
              | exact XA.out
              | exact HD0.out
              | fail)
            ((first
              | (go_at_call 12; refine Calls.mono (pq_addx PC.out z HZ.out PC.out.base) ?_; rintro e wD ⟨rfl, F', pD, tD⟩; have PD := Lib.hid pD; have TD := Lib.hid tD; have XD := Lib.hid (XC.out.turn tD (fun h => absurd (HXG.out X (List.mem_append_right _ h)) (Nat.lt_irrefl _))); clear pD tD)
              | (have hB := PB.out; clear hB; go_at_call 28; refine Calls.mono (KN.out _) ?_; rintro e wC ⟨rfl, hbC⟩; have PC := Lib.hid (PB.out.mono hbC); have BC := Lib.hid hbC; have XC := Lib.hid (XB.out.bel hbC); clear hbC)
              | (go_at_call 27; refine Calls.mono (pq_addh PA.out z HZ.out PA.out.base) ?_; rintro e wB ⟨rfl, G', pB, tB⟩; have PB := Lib.hid pB; have TB := Lib.hid tB; have XB := Lib.hid (XA.out.turn tB (fun h => absurd (HXG.out X (List.mem_append_left _ h)) (Nat.lt_irrefl _))); clear pB tB)
              | (go_at_call 28; refine Calls.mono (KN.out _) ?_; rintro e wA ⟨rfl, hbA⟩; have BA := Lib.hid (show Below W.heap.size W wA from ⟨hbA.os, hbA.tape, hbA.output, hbA.size, hbA.block⟩); have PA := Lib.hid (PW.out.mono BA.out); have XA := Lib.hid (XW.out.bel BA.out); clear hbA)
              | fail))
          all_goals
            have bA := BKW.out.trans (BA.out.mono BKW.out.size)
            have bB := TB.out.bel (PA.out.own.left.base HBW.out) bA bA.size
            have bC := bB.trans (BC.out.mono bB.size)
            have bD := Lib.hid (TD.out.bel (PC.out.own.right.base HBW.out) bC bC.size)
            clear bA bB bC
            go_wp2
            go_roundw
            case rel => exact ⟨k + 1, G', F', _, by have := HLT.out; omega, by have := HLT.out; omega, by go_num, PD.out, bD.out⟩
            case measure => have := HLT.out; simp [intOf]; omega
        · obtain rfl : c = 6 := hc6
          by_cases h8 : db.tmod 8 = 0
          case' pos =>
            have e8 : (db.tmod 8 == 0) = true := by rw [h8]; rfl
            clear h8
            go_wp2_with fail
            rw [← HXX.out, ← WW.out]
            clear c0 c1 c2 c3 e8
            obtain ⟨cb, ecb, hcb4⟩ := bits5 db
            rw [ecb]
            clear ecb
            refine (New_yes cb _ hcb4).mono ?_
            rintro e w3 ⟨rfl, h3, b3⟩
            obtain ⟨C, hC⟩ : ∃ C, C = W.heap.size := ⟨_, rfl⟩
            obtain ⟨p2, hp2⟩ : ∃ p2, p2 = W.heap.size := ⟨_, rfl⟩
            rw [← hp2] at h3 ⊢
            have H3 := Lib.hid h3
            have B3 := Lib.hid b3
            have HP2 := Lib.hid hp2
            clear h3 b3 hp2
            go_wp2_with fail
            refine (rNew_yes cb _ hcb4).mono ?_
            rintro e w4 ⟨rfl, x4, b4⟩
            obtain ⟨q2, hq2⟩ : ∃ q2, q2 = w3.heap.size := ⟨_, rfl⟩
            rw [← hq2] at x4 ⊢
            have P4 := Lib.hid (show PQ C w4 p2 q2 cb [p2] [q2] [] [] by rw [hC]; exact PQ.new H3.out x4 hcb4 HP2.out hq2 B3.out b4)
            have B4 := Lib.hid (show Below C W w4 by rw [hC]; exact B3.out.trans (b4.mono B3.out.size))
            have HC := Lib.hid hC
            clear x4 b4 hq2 hC H3 B3 HP2
          case' neg =>
            have e8 : (db.tmod 8 == 0) = false := by rw [beq_eq_false_iff_ne]; exact h8
            clear h8
            go_wp2_with fail
            rw [← HXX.out, ← WW.out]
            clear c0 c1 c2 c3 e8
            refine (New_yes b _ hb4).mono ?_
            rintro e w3 ⟨rfl, h3, b3⟩
            obtain ⟨C, hC⟩ : ∃ C, C = W.heap.size := ⟨_, rfl⟩
            obtain ⟨p2, hp2⟩ : ∃ p2, p2 = W.heap.size := ⟨_, rfl⟩
            rw [← hp2] at h3 ⊢
            have H3 := Lib.hid h3
            have B3 := Lib.hid b3
            have HP2 := Lib.hid hp2
            clear h3 b3 hp2
            go_wp2_with fail
            refine (rNew_yes b _ hb4).mono ?_
            rintro e w4 ⟨rfl, x4, b4⟩
            obtain ⟨q2, hq2⟩ : ∃ q2, q2 = w3.heap.size := ⟨_, rfl⟩
            rw [← hq2] at x4 ⊢
            have P4 := Lib.hid (show PQ C w4 p2 q2 b [p2] [q2] [] [] by rw [hC]; exact PQ.new H3.out x4 hb4 HP2.out hq2 B3.out b4)
            have B4 := Lib.hid (show Below C W w4 by rw [hC]; exact B3.out.trans (b4.mono B3.out.size))
            have HC := Lib.hid hC
            clear x4 b4 hq2 hC H3 B3 HP2
            obtain ⟨cb, hcb⟩ : ∃ cb, cb = b := ⟨_, rfl⟩
            rw [← hcb] at P4
            have hcb4 : cb ≤ 4 := by omega
            clear hcb
          all_goals
            have HGC := Lib.hid (show ∀ g ∈ G ++ F, g < C from fun g hg => by rw [HC.out]; exact Nat.lt_of_lt_of_le (PK.out.own.mem g hg).2 BW.out.size)
            have HXC := Lib.hid (show X < C by rw [HC.out]; exact World.block_lt_of_cell? _ _ XW.out.1)
            obtain ⟨x0, x1, x2, x3⟩ := XW.out.low B4.out HXC.out
            go_wp2_with fail
            clear x0 x1 x2 x3
            go_loopw [23] (fun i wr => ∃ (j : Nat) (G2 F2 : List Nat) (l2 : IL), i = .int .i64 j ∧ j ≤ zn ∧ j ≤ 10 ∧ PQ C wr p2 q2 cb G2 F2 l2 l2 ∧ Below C w4 wr) (fun i _ => 10 - (intOf i).toNat)
            case atStart => exact ⟨0, _, _, _, rfl, by omega, by omega, P4.out, Below.refl _ _⟩
            case round =>
              obtain ⟨j, G2, F2, l2, rfl, hj, hj10, p2k, bb⟩ := hrel
              have P2 := Lib.hid p2k
              have BB := Lib.hid bb
              have XR := Lib.hid (show DC wr X K dn dla zn dlc db from XW.out.low (B4.out.trans bb) HXC.out)
              obtain ⟨x0, x1, x2, x3⟩ := XR.out
              clear p2k bb
              by_cases hlt2 : j < zn ∧ j < 10
              · obtain ⟨hl1, hl2⟩ := hlt2
                have q1 : (j : Int) < zn := by omega
                have q2' : (j : Int) < 10 := by omega
                obtain ⟨y, hy⟩ : ∃ y, dz[j]? = some y := ⟨_, List.getElem?_eq_getElem (by rw [← HZN.out]; exact hl1)⟩
                obtain ⟨a', rfl, hya⟩ : ∃ a', dla = some a' ∧ w.cell? (a'.add j) = some (.int .i64 y) := by
                  obtain ⟨a1, c1, e1, _, _, h4⟩ := NR.out.form
                  cases e1
                  exact h4 j y hy
                have hyi : I64 y := ZS.out y (List.mem_of_getElem? hy)
                obtain ⟨z, hz⟩ : ∃ z, z = numZ K y := ⟨_, rfl⟩
                have HZ := Lib.hid (show I64 z by rw [hz]; exact numZ_in K y hyi)
                have KN := Lib.hid (show ∀ v, Calls Try.prog 28 #[.agg #[.int .u8 K, .int .i64 dn, .slice (some a') zn dlc, .int .i64 db], .int .i64 y] v fun e w' => e = .returned (.int .i64 z) ∧ Below v.heap.size v w' from fun v => by rw [hz]; exact number_any K HK.out dn (some a') zn dlc db y hyi v)
                have HCL := Lib.hid (show (a'.add j).block < C from Nat.lt_of_lt_of_le (World.block_lt_of_cell? _ _ hya) (Nat.le_trans BKW.out.size (Nat.le_of_eq HC.out.symm)))
                have ER := Lib.hid (show DE wr X K dn a' zn dlc db j y from ⟨XR.out, by
                  have h1 := (BKW.out.cell (World.block_lt_of_cell? _ _ hya)).trans hya
                  exact ((B4.out.trans BB.out).cell HCL.out).trans h1⟩)
                have HLT2 := Lib.hid (And.intro hl1 hl2)
                clear hy hya hyi hz hl1 hl2
                go_wp2_with fail
                have HD0 := Lib.hid (show DE wr.drew X K dn a' zn dlc db j y from ER.out)
                go_region_held3 (fun u => u.cell? ⟨X, 0, none⟩ = some (.int .u8 K) ∧ u.cell? ⟨X, 1, none⟩ = some (.int .i64 dn) ∧ u.cell? ⟨X, 2, none⟩ = some (.slice (some a') zn dlc) ∧ u.cell? ⟨X, 3, none⟩ = some (.int .i64 db) ∧ u.cell? (a'.add j) = some (.int .i64 y))
                  (first
                    | exact E2.out.flat
                    | exact E1.out.flat
                    | exact HD0.out.flat
                    | fail)
                  ((first
                    | (go_at_call 27; refine Calls.mono (pq_addh P3.out z HZ.out P3.out.base) ?_; rintro e u2 ⟨rfl, G3, p3, t3⟩; have P5 := Lib.hid p3; have BT2 := Lib.hid (t3.bel P3.out.own.left BT1.out P3.out.base); have E2 := Lib.hid (E1.out.turn t3 (fun g hg => (P3.out.own.left.mem g hg).1) HXC.out HCL.out); clear p3 t3)
                    | (go_at_call 28; refine Calls.mono (KN.out _) ?_; rintro e u1 ⟨rfl, hb1⟩; have BE1 := Lib.hid (show Below wr.heap.size wr u1 from ⟨hb1.os, hb1.tape, hb1.output, hb1.size, hb1.block⟩); have P3 := Lib.hid (P2.out.mono BE1.out); have E1 := Lib.hid (ER.out.bel BE1.out); have BT1 := Lib.hid (BB.out.trans (BE1.out.mono P2.out.base)); clear hb1)
                    | fail))
                all_goals
                  clear x0 x1 x2 x3
                  go_wp2_with fail
                  have HD1 := Lib.hid (show DE u2.drew X K dn a' zn dlc db j y from E2.out)
                  go_region_held3 (fun u => u.cell? ⟨X, 0, none⟩ = some (.int .u8 K) ∧ u.cell? ⟨X, 1, none⟩ = some (.int .i64 dn) ∧ u.cell? ⟨X, 2, none⟩ = some (.slice (some a') zn dlc) ∧ u.cell? ⟨X, 3, none⟩ = some (.int .i64 db) ∧ u.cell? (a'.add j) = some (.int .i64 y))
                    (first
                      | exact E4.out.flat
                      | exact E3.out.flat
                      | exact HD1.out.flat
                      | fail)
                    ((first
                      | (go_at_call 12; refine Calls.mono (pq_addx P6.out z HZ.out P6.out.base) ?_; rintro e u4 ⟨rfl, F3, p6, t6'⟩; have P7 := Lib.hid p6; have BT4 := Lib.hid (t6'.bel P6.out.own.right BT3.out P6.out.base); have E4 := Lib.hid (E3.out.turn t6' (fun g hg => (P6.out.own.right.mem g hg).1) HXC.out HCL.out); clear p6 t6')
                      | (go_at_call 28; refine Calls.mono (KN.out _) ?_; rintro e u3 ⟨rfl, hb3⟩; have BE3 := Lib.hid (show Below u2.heap.size u2 u3 from ⟨hb3.os, hb3.tape, hb3.output, hb3.size, hb3.block⟩); have P6 := Lib.hid (P5.out.mono BE3.out); have E3 := Lib.hid (E2.out.bel BE3.out); have BT3 := Lib.hid (BT2.out.trans (BE3.out.mono P5.out.base)); clear hb3)
                      | fail))
                  all_goals
                    go_wp2
                    go_roundw
                    case rel => exact ⟨j + 1, G3, F3, _, by go_num, by have := HLT2.out; omega, by have := HLT2.out; omega, P7.out, BT4.out⟩
                    case measure => have := HLT2.out; simp [intOf]; omega
              have P1 := Lib.hid (PW.out.keep (B4.out.trans BB.out) HGC.out)
              have BR := Lib.hid (BKW.out.trans ((B4.out.trans BB.out).mono (Nat.le_trans BKW.out.size (Nat.le_of_eq HC.out.symm))))
              by_cases hl1 : j < zn
              case' pos =>
                obtain rfl : j = 10 := by omega
                have q1 : (10 : Int) < zn := by omega
                clear hlt2 hl1
                go_wp2_with fail
              case' neg =>
                obtain rfl : j = zn := by omega
                clear hlt2 hl1 hj
                go_wp2_with fail
              all_goals
                have hme : ((mergeL b l cb l2).2 != (mergeL b l cb l2).2) = false := by simp
                refine (pq_mergeh P1.out P2.out HGC.out P1.out.base).mono ?_
                rintro e wm ⟨rfl, G5, pm, xm, tm'⟩
                have PM := Lib.hid pm
                have XM := Lib.hid xm
                have BM := Lib.hid (tm'.bel (P1.out.own.left.base HBW.out) BR.out BR.out.size)
                clear pm xm tm' x0 x1 x2 x3
                go_wp2_with fail
                refine (pq_mergex PM.out XM.out P2.out.xo PM.out.base).mono ?_
                rintro e wn ⟨rfl, F5, pn, tn⟩
                have PN := Lib.hid pn
                have BN := Lib.hid (tn.bel (PM.out.own.right.base HBW.out) BM.out BM.out.size)
                clear pn tn
                go_wp2
                go_roundw
                case rel => exact ⟨k + 1, G5, F5, _, by have := HLT.out; omega, by have := HLT.out; omega, by go_num, PN.out, BN.out⟩
                case measure => have := HLT.out; simp [intOf]; omega
      by_cases hl1 : k < n
      case' pos =>
        obtain rfl : k = 60 := by omega
        have q1 : (60 : Int) < n := by omega
        clear hlt hl1
        go_wp2_with fail
      case' neg =>
        obtain rfl : k = n := by omega
        clear hlt hl1 hk
        go_wp2_with fail
      all_goals
        have hlen := PK.out.ho.len
        refine (same_any PK.out.h PK.out.x PK.out.ho).mono ?_
        rintro e w5 ⟨rfl, b5⟩
        have P5 := Lib.hid (PK.out.mono b5)
        have B5 := Lib.hid (BK.out.trans (b5.mono BK.out.size))
        clear b5
        go_wp2_with fail
        refine (Rank_any P5.out.h (by omega) r hr).mono ?_
        rintro e w6 ⟨rfl, b6⟩
        have P6 := Lib.hid (P5.out.mono b6)
        have B6 := Lib.hid (B5.out.trans (b6.mono B5.out.size))
        clear b6
        go_wp2_with fail
        refine (rRank_any P6.out.x (by omega) r hr).mono ?_
        rintro e w7 ⟨rfl, rfl⟩
        go_wp2_with fail
        refine (Quantile_any P6.out.h P6.out.ho num den hnum hden).mono ?_
        rintro e w7 ⟨rfl, b7⟩
        have P7 := Lib.hid (P6.out.mono b7)
        have B7 := Lib.hid (B6.out.trans (b7.mono B6.out.size))
        clear b7
        go_wp2_with fail
        refine (rQuantile_any P7.out.x P7.out.xo num den hnum hden).mono ?_
        rintro e w8 ⟨rfl, b8⟩
        have P8 := Lib.hid (P7.out.mono b8)
        have B8 := Lib.hid (B7.out.trans (b8.mono B7.out.size))
        have KP := Lib.hid (Put_any P8.out.h P8.out.ho)
        clear b8
        obtain ⟨S, hS⟩ : ∃ S, S = strOfNums (encL b l) := ⟨_, rfl⟩
        rw [← hS] at KP
        have HS := Lib.hid hS
        obtain ⟨⟨z1, z2⟩, hz⟩ : ∃ z, z = rankZ l r := ⟨_, rfl⟩
        obtain ⟨⟨z3, z4, z5⟩, hz'⟩ : ∃ z, z = quantL b l num den := ⟨_, rfl⟩
        rw [← hz, ← hz']
        clear hS hz hz'
        go_wp2_with fail
        refine KP.out.mono ?_
        rintro e w9 ⟨rfl, b9⟩
        have P9 := Lib.hid (P8.out.mono b9)
        have B9 := Lib.hid (B8.out.trans (b9.mono B8.out.size))
        have KX := Lib.hid (rPut_any P9.out.x P9.out.xo)
        rw [← HS.out] at KX
        clear b9 KP
        go_wp2_with fail
        refine KX.out.mono ?_
        rintro e wa ⟨rfl, ba⟩
        have BA := Lib.hid (B9.out.trans (ba.mono B9.out.size))
        clear ba KX
        go_wp2
        go_ret
        exact ⟨by simp, BA.out⟩
end Go.Proofs.Ytmhljblfbnjopaa.HHist
