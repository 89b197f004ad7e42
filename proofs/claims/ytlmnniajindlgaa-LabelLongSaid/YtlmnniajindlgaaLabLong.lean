/- LabelLong: a key may be just so long, and have just so many labels. Conditions: none but the parameters' sizes. -/
import Derived.Test.YtlmnniajindlgaaLabFew
import Derived.Deep.OwnRows
namespace Go.Proofs.Ytlmnniajindlgaa.HLab
set_option linter.unusedVariables false
open Go.RowKit Go.Proofs.Ytlmnniajindlgaa.HMem Go.Proofs.Ytlmnniajindlgaa.HBld Go.Proofs.Ytlmnniajindlgaa.HApp

/-- A text of one byte, k times. -/
def rpL (k h : Nat) : List UInt8 := List.replicate k (UInt8.ofNat (97 + h))
def rp (k h : Nat) : ByteArray := ⟨⟨rpL k h⟩⟩
def longL (n k : Nat) : LL := (List.range n).map fun h => (rp k h, rp k h)
theorem longL_length (n k : Nat) : (longL n k).length = n := by simp [longL]
theorem longL_succ (n k : Nat) : longL (n + 1) k = longL n k ++ [(rp k n, rp k n)] := by unfold longL; rw [List.range_succ, List.map_append]; rfl
theorem rp_size (k h : Nat) : (rp k h).size = k := List.length_replicate
theorem rp_data (k h : Nat) : (rp k h).data.toList = rpL k h := rfl
theorem ch_nat (h : Nat) (hh : h < 18) : (UInt8.ofNat (97 + h)).toNat = 97 + h := by rw [UInt8.toNat_ofNat']; omega
theorem rp_named (k h : Nat) (hk : 1 ≤ k ∧ k ≤ 64) (hh : h < 18) : named (rp k h) = true :=
  named_of (by rw [rpL, List.length_replicate]; exact hk.1) (by rw [rpL, List.length_replicate]; exact hk.2) fun c hc => by
    rw [rpL] at hc
    rw [List.eq_of_mem_replicate hc, ch_nat h hh]
    omega
theorem rp_long (k h : Nat) (hk : 64 < k) : named (rp k h) = false := by
  unfold named
  rw [rp_size, decide_eq_false (show ¬ k ≤ 64 by omega)]
  simp
theorem rp_lt (k a b : Nat) (hk : 1 ≤ k) (hab : a < b) (hb : b < 18) : Lt (rp k a) (rp k b) := by
  unfold Lt
  rw [rp_data, rp_data]
  obtain ⟨j, rfl⟩ : ∃ j, k = j + 1 := ⟨k - 1, by omega⟩
  unfold rpL
  rw [List.replicate_succ, List.replicate_succ]
  refine List.Lex.rel ?_
  rw [UInt8.lt_iff_toNat_lt, ch_nat a (by omega), ch_nat b hb]
  omega
theorem long_rise (n k : Nat) (hn : n ≤ 18) (hk : 1 ≤ k) : Rise (longL n k) := by
  unfold Rise longL
  rw [List.pairwise_map]
  refine List.Pairwise.imp_of_mem ?_ List.pairwise_lt_range
  intro a b ha hb hab
  have := List.mem_range.1 hb
  exact rp_lt k a b hk hab (by omega)
theorem long_enc (k : Nat) : ∀ s : LL, (∀ x ∈ s, x.1.size = k ∧ x.2.size = k) → (encS s).length = 2 * s.length * (k + 1)
  | [], h => by simp [encS]
  | x :: r, h => by
    have h1 := h x (by simp)
    have h2 := long_enc k r fun y hy => h y (by simp [hy])
    have a1 : x.1.data.toList.length = x.1.size := list_size x.1
    have a2 : x.2.data.toList.length = x.2.size := list_size x.2
    simp only [encS, txL, List.length_append, List.length_cons, a1, a2, h1.1, h1.2, h2]
    rw [Nat.mul_add 2 r.length 1, Nat.add_mul]
    omega
theorem long_mem {n k : Nat} : ∀ x ∈ longL n k, ∃ h, h < n ∧ x = (rp k h, rp k h) := fun x hx => by
  obtain ⟨h, hh, rfl⟩ := List.mem_map.1 hx
  exact ⟨h, List.mem_range.1 hh, rfl⟩
def mB : ByteArray := ⟨#[109]⟩
theorem m_named : named mB = true := by decide +kernel
theorem long_ok (n k : Nat) (hn : n ≤ 16) (hk : 1 ≤ k ∧ (0 < n → k ≤ 64)) : okL mB (longL n k) = true := by
  unfold okL
  rw [m_named, longL_length, decide_eq_true hn, Bool.true_and, Bool.true_and, List.all_eq_true]
  intro x hx
  obtain ⟨h, hh, rfl⟩ := long_mem x hx
  have := rp_named k h ⟨hk.1, hk.2 (by omega)⟩ (by omega)
  simp only [this, Bool.and_self]
theorem long_arg (n k : Nat) (h : 16 < n ∨ (0 < n ∧ 64 < k)) : keyL mB (longL n k) = (⟨#[]⟩, 1) := by
  refine keyL_arg ?_
  unfold okL
  rw [longL_length]
  rcases h with h | ⟨h1, h2⟩
  · rw [decide_eq_false (show ¬ n ≤ 16 by omega)]; simp
  · have : ((longL n k).all fun x => named x.1 && named x.2) = false := by
      rw [List.all_eq_false]
      exact ⟨(rp k 0, rp k 0), List.mem_map.2 ⟨0, List.mem_range.2 h1, rfl⟩, by simp [rp_long k 0 h2]⟩
    rw [this, Bool.and_false]
theorem long_len (n k : Nat) : (encL mB (longL n k)).length = 3 + 2 * n * (k + 1) := by
  have h := long_enc k (longL n k) fun x hx => by
    obtain ⟨h, hh, rfl⟩ := long_mem x hx
    exact ⟨rp_size k h, rp_size k h⟩
  rw [longL_length] at h
  have a1 : mB.data.toList.length = 1 := rfl
  simp only [encL, txL, List.length_append, List.length_cons, h, a1]
  omega
/-- What the law wants of the error. -/
def wantL (n k : Nat) : Int := if 16 < n ∨ (0 < n ∧ 64 < k) then 1 else if 2048 < 3 + 2 * n * (k + 1) then 3 else 0
theorem long_key (n k : Nat) (hn : n ≤ 18) (hk : 1 ≤ k) : ∃ key, keyL mB (longL n k) = (key, wantL n k) ∧ (wantL n k = 0 → key.size = 3 + 2 * n * (k + 1)) := by
  unfold wantL
  by_cases h : 16 < n ∨ (0 < n ∧ 64 < k)
  · rw [if_pos h]
    exact ⟨_, long_arg n k h, fun h => by simp at h⟩
  · rw [if_neg h]
    have ho := long_ok n k (by omega) ⟨hk, fun h0 => by omega⟩
    have hs := sortL_self (long_rise n k hn hk)
    by_cases h2 : 2048 < 3 + 2 * n * (k + 1)
    · rw [if_pos h2]
      exact ⟨_, keyL_long ho hs (by rw [long_len]; exact h2), fun h => by simp at h⟩
    · rw [if_neg h2]
      refine ⟨_, keyL_ok ho hs (by rw [long_len]; exact h2), fun _ => ?_⟩
      show (encL mB (longL n k)).length = _
      rw [long_len]
def BAt (w : World) (g : Nat) (xs : List UInt8) : Prop := w.heap[g]? = some (.cells (Lib.byteCells xs).toArray 5 (0, 0))
theorem BAt.cell {w : World} {g : Nat} {xs : List UInt8} (h : BAt w g xs) (j : Nat) (hj : j < xs.length) : (∃ u, w.cell? ⟨g, j, none⟩ = some u) ∧ w.frozen? ⟨g, j, none⟩ = false := by
  unfold BAt at h
  have hl : j < (Lib.byteCells xs).toArray.size := by rw [List.size_toArray, Lib.byteCells_length]; exact hj
  refine ⟨⟨(Lib.byteCells xs).toArray[j], by simp [World.cell?, h, hl]⟩, by simp [World.frozen?, h]⟩
theorem BAt.put {w : World} {g : Nat} {xs : List UInt8} (h : BAt w g xs) (j : Nat) (c : UInt8) : BAt (w.setCell ⟨g, j, none⟩ (.int .u8 c.toNat)) g (xs.set j c) := by
  unfold BAt
  rw [set_at h j]
  congr 2
  rw [List.setIfInBounds_toArray]
  congr 1
  unfold Lib.byteCells
  rw [List.map_set]
theorem BAt.owns {w : World} {g B : Nat} {xs : List UInt8} (h : BAt w g xs) (hB : B ≤ g) (hl : xs.length ≤ 1000) : w.ownsRow B 5 1 (.slice (some ⟨g, 0, none⟩) xs.length xs.length) xs.length (Lib.byteCells xs) :=
  ⟨by rw [Lib.byteCells_length, Nat.mul_one], .inr ⟨g, xs.length, (Lib.byteCells xs).toArray, rfl, hB, h, Nat.le_refl _, by unfold maxLen; omega, by rw [List.size_toArray, Lib.byteCells_length, Nat.mul_one], by rw [Nat.mul_one]; exact List.take_of_length_le (by rw [List.toList_toArray, Lib.byteCells_length]; exact Nat.le_refl _)⟩⟩
theorem makeB (w : World) (k : Nat) (hk : k ≤ 66) : (Instr.makeSlice 23 (.int .i64 k) (.int .i64 k)).run Try.prog w = .ok (.slice (some ⟨w.heap.size, 0, none⟩) k k) (w.alloc (.cells (Lib.byteCells (List.replicate k 0)).toArray 5)) := by
  obtain ⟨i0, hi0, hz0, hz1, hz2⟩ := info_parts infoB8
  have h := run_make_row (P := Try.prog) 23 5 i0 (.int .u8 0) Try.underlying23 hi0 hz0 hz1 rfl .i64 .i64 k (by rw [hz2]; omega) (by omega) w
  rw [h]
  congr 3
  apply Array.ext
  · simp [madeCells, Lib.byteCells]
  · intro j h1 h2
    simp [madeCells, Lib.byteCells]
    first | rfl | simp [Nat.mod_one] | skip
theorem rep_set (k j : Nat) (c : UInt8) (h : j < k) : (List.replicate j c ++ List.replicate (k - j) 0).set j c = List.replicate (j + 1) c ++ List.replicate (k - (j + 1)) (0 : UInt8) := by
  rw [List.set_append_right _ _ (by rw [List.length_replicate]; exact Nat.le_refl _), List.length_replicate, Nat.sub_self]
  obtain ⟨d, hd⟩ : ∃ d, k - j = d + 1 := ⟨k - j - 1, by omega⟩
  rw [hd, List.replicate_succ, List.set_cons_zero, show k - (j + 1) = d by omega, List.replicate_succ', List.append_assoc]
  rfl
set_option maxHeartbeats 8000000 in
set_option maxRecDepth 20000 in
theorem LabelLong_any (w : World) (many size : Nat) (hm : many < 256) (hs : size < 256) :
    Calls Try.prog 5 #[.int .u8 many, .int .u8 size] w fun e w' => e = .returned (.bool true) ∧ Below w.heap.size w w' := by
  obtain ⟨i0, hi0, hz0, hz1, hz2⟩ := infoL2
  obtain ⟨n, hn⟩ : ∃ n, n = many % 18 := ⟨_, rfl⟩
  obtain ⟨k0, hk0⟩ : ∃ k0, k0 = size % 66 := ⟨_, rfl⟩
  obtain ⟨k, hk⟩ : ∃ k, k = 1 + k0 := ⟨_, rfl⟩
  have en1 : ((many : Nat) : Int).tmod 18 = (n : Int) := by rw [Int.tmod_eq_emod_of_nonneg (by omega)]; omega
  have en2 : ((size : Nat) : Int).tmod 66 = (k0 : Int) := by rw [Int.tmod_eq_emod_of_nonneg (by omega)]; omega
  have en3 : (1 : Int) + (k0 : Int) = (k : Int) := by omega
  have hn18 : n < 18 := by omega
  have hk66 : k ≤ 66 := by omega
  have hk1 : 1 ≤ k := by omega
  have HK1 := Lib.hid (And.intro hk1 hk66)
  clear hn hk0 hk
  go_enter Try.func5, Try.ntmps5
  go_wp2_with fail
  refine (examples_any w).mono ?_
  rintro e w1 ⟨rfl, b1⟩
  have B1 := Lib.hid b1
  clear b1
  go_wp2_with fail
  obtain ⟨B, hB⟩ : ∃ B, B = w1.heap.size := ⟨_, rfl⟩
  have HB := Lib.hid hB
  clear hB en1 en2
  go_loopw [8, 9, 10, 11] (fun v z _ _ wr => ∃ i : Nat, i ≤ n ∧ z = .int .i64 i ∧ wr.ownsRow B 42 2 v i (flat (longL i k)) ∧ Below B w1 wr) (fun _ z _ _ _ => 18 - (intOf z).toNat)
  case atStart => exact ⟨0, Nat.zero_le _, rfl, ⟨rfl, .inl ⟨rfl, rfl⟩⟩, by rw [HB.out]; exact Below.refl _ _⟩
  case round =>
    obtain ⟨V, hV⟩ : ∃ V, V = wr := ⟨_, rfl⟩
    subst hV
    obtain ⟨i, hi, rfl, own, bb⟩ := hrel
    have OWN := Lib.hid own
    have BB := Lib.hid bb
    have hbw : B ≤ V.heap.size := by rw [HB.out]; exact bb.size
    obtain ⟨G, row, hG⟩ := Row.ofOwns own
    obtain ⟨av, cq, rfl, _⟩ := row.form
    have ROW := Lib.hid row
    clear own bb row hG
    rcases Nat.lt_or_ge i n with hlt | hge
    · have hi1 : (i : Int) < n := by omega
      have HLT := Lib.hid hlt
      have hi18 : i < 18 := by omega
      obtain ⟨g, hg⟩ : ∃ g, g = V.heap.size := ⟨_, rfl⟩
      have hmk := makeB V k HK1.out.2
      obtain ⟨W0, hW0⟩ : ∃ W0, W0 = V.alloc (.cells (Lib.byteCells (List.replicate k 0)).toArray 5) := ⟨_, rfl⟩
      rw [← hg, ← hW0] at hmk
      have hat : BAt W0 g (List.replicate k 0) := by rw [hW0, hg]; exact heap_alloc_new V _
      have hbg : B ≤ g := by omega
      have bel0 : Below g V W0 := by rw [hW0, hg]; exact (Below.refl _ _).alloc (Nat.le_refl _) _
      have HAT := Lib.hid hat
      have HBG := Lib.hid hbg
      have BEL := Lib.hid bel0
      have HG := Lib.hid hg
      obtain ⟨ch, hch⟩ : ∃ ch : UInt8, ch = UInt8.ofNat (97 + i) := ⟨_, rfl⟩
      have ec : (ch.toNat : Int) = 97 + (i : Int) := by rw [hch, ch_nat i hi18]; omega
      have ew1 : IntKind.i64.wrap (97 + (i : Int)) = (ch.toNat : Int) := by rw [IntKind.wrap_i64] <;> omega
      have ew2 : IntKind.u8.wrap (ch.toNat : Int) = (ch.toNat : Int) := by simp [IntKind.wrap, IntKind.signed, IntKind.bits]; omega
      have HCH := Lib.hid hch
      clear hat bel0 hbg hg hW0 hlt hch ec hi18
      go_wp2_with fail
      go_loopw [11] (fun z wr => ∃ j : Nat, j ≤ k ∧ z = .int .i64 j ∧ BAt wr g (List.replicate j ch ++ List.replicate (k - j) 0) ∧ Below g V wr) (fun z _ => k - (intOf z).toNat)
      case atStart => exact ⟨0, Nat.zero_le _, rfl, by rw [Nat.sub_zero]; exact HAT.out, BEL.out⟩
      case round =>
        obtain ⟨j, hj, rfl, hat, bel⟩ := hrel
        have HAT2 := Lib.hid hat
        have BEL2 := Lib.hid bel
        rcases Nat.lt_or_ge j k with hjl | hjg
        · have hj1 : (j : Int) < k := by omega
          obtain ⟨⟨u, cu⟩, fr⟩ := hat.cell j (by rw [List.length_append, List.length_replicate, List.length_replicate]; omega)
          have N2 := Lib.hid (show BAt (wr.setCell ⟨g, j, none⟩ (.int .u8 ch.toNat)) g (List.replicate (j + 1) ch ++ List.replicate (k - (j + 1)) 0) by
            have := hat.put j ch
            rw [rep_set k j ch hjl] at this
            exact this)
          have B2 := Lib.hid (show Below g V (wr.setCell ⟨g, j, none⟩ (.int .u8 ch.toNat)) from Below.setCell bel (show g ≤ (Addr.block ⟨g, j, none⟩) from Nat.le_refl g) _)
          have HJ := Lib.hid hjl
          clear hat bel hjl hmk
          go_wp2
          go_roundw
          case rel => exact ⟨j + 1, HJ.out, by go_num, N2.out, B2.out⟩
          case measure => have := HJ.out; simp [intOf]; omega
        · obtain rfl : j = k := by omega
          have hj1 : ¬ (j : Int) < j := by omega
          have hat' : BAt wr g (rpL j i) := by
            rw [Nat.sub_self, List.replicate_zero, List.append_nil, HCH.out] at hat
            exact hat
          obtain ⟨T, hT⟩ : ∃ T, T = rp j i := ⟨_, rfl⟩
          have hcv := cv_own (B := B) (l := rpL j i) (hat'.owns HBG.out (by rw [rpL, List.length_replicate]; have := HK1.out; omega))
          rw [show (rpL j i).length = j from List.length_replicate, show (⟨⟨rpL j i⟩⟩ : ByteArray) = T from hT.symm] at hcv
          have OW1 := Lib.hid (owns_same (w' := wr) OWN.out fun h h1 h2 => bel.block h (by rw [HG.out]; exact h2))
          have B1' := Lib.hid (show Below B w1 wr from BB.out.trans (bel.mono HBG.out))
          have hbw1 : B ≤ wr.heap.size := Nat.le_trans hbw bel.size
          have OW5 := Lib.hid (OW1.out.alloc (.cells #[.string T, .string T] 42))
          have A2 : ∀ ad, (some ⟨wr.heap.size, 0, none⟩ : Option Addr) = some ad → ∀ j u, [Value.string T, .string T][j]? = some u → (wr.alloc (.cells #[.string T, .string T] 42)).cell? (ad.add j) = some u := fun ad e j y hy => by cases e; exact two_new _ _ _ _ j y hy
          have A3 : ∀ u ∈ [Value.string T, .string T], u.oneCell' = true := fun u hu => by simp at hu; rcases hu with rfl | rfl <;> rfl
          have A4 : i + 1 ≤ maxLen := by unfold maxLen; omega
          have A5 : (i + 1) * 32 ≤ 140737488355328 := by omega
          have A6 : B ≤ (wr.alloc (.cells #[.string T, .string T] 42)).heap.size := by simp; omega
          have HT := Lib.hid hT
          clear hat hat' bel hj hjg hmk hT HAT HAT2
          go_wp2_with (at_builtin; refine append_any _ rfl _ _ 28 rfl B 42 i0 (.agg #[.string ⟨#[]⟩, .string ⟨#[]⟩]) 2 32 Try.underlying28 hi0 hz0 hz1 hz2 rfl (by decide) _ i (flat (longL i j)) rfl OW5.out (some ⟨wr.heap.size, 0, none⟩) 1 1 [.string T, .string T] rfl (fun e => nomatch e) rfl A2 A3 A4 A5 A6 ?_)
          intro v5 w5 o5 b5
          have B5 := Lib.hid (show Below B w1 w5 from B1'.out.trans (((Below.refl B wr).alloc hbw1 _).trans b5))
          have O5 := Lib.hid (show w5.ownsRow B 42 2 v5 (i + 1) (flat (longL (i + 1) j)) by
            rw [longL_succ, flat_append, ← HT.out]; exact o5)
          clear A2 A3 A4 A5 A6 o5 b5 OW5 hbw1
          go_wp2
          go_roundw
          case rel => exact ⟨i + 1, HLT.out, by go_num, O5.out, B5.out⟩
          case measure => have := HLT.out; simp [intOf]; omega
    · obtain rfl : i = n := by omega
      have hi1 : ¬ (i : Int) < i := by omega
      have LR := Lib.hid (show LRow V (.slice av i cq) (longL i k) by
        have := LRow.ofRow (l := longL i k) (G := G) (v := .slice av i cq) (w := V) (by rw [longL_length]; exact ROW.out)
        exact this)
      have HZ := Lib.hid (show Szs (longL i k) from fun x hx => by
        obtain ⟨h, _, rfl⟩ := long_mem x hx
        have := HK1.out
        exact ⟨by show (rp k h).size ≤ _; rw [rp_size]; omega, by show (rp k h).size ≤ _; rw [rp_size]; omega⟩)
      have BW := Lib.hid (show Below w.heap.size w V from B1.out.trans (BB.out.mono (by rw [HB.out]; exact B1.out.size)))
      obtain ⟨key, hkey, hsz⟩ := long_key i k (by omega) HK1.out.1
      obtain ⟨q, hq⟩ : ∃ q, q = wantL i k := ⟨_, rfl⟩
      rw [← hq] at hkey hsz
      have HKEY := Lib.hid hkey
      have HSZ := Lib.hid hsz
      have HQ := Lib.hid hq
      clear hkey hsz hq hge hi OWN BB hbw
      go_wp2_with fail
      refine (Key_any _ _ (longL i k) ⟨#[109]⟩ LR.out (by rw [longL_length]; omega) HZ.out (by decide)).mono ?_
      rintro e w7 ⟨rfl, b7⟩
      rw [show keyL ⟨#[109]⟩ (longL i k) = (key, q) from HKEY.out]
      have B7 := Lib.hid (BW.out.trans (b7.mono BW.out.size))
      clear b7
      dsimp only
      obtain ⟨m2, hm2⟩ : ∃ m2, m2 = 2 * i := ⟨_, rfl⟩
      obtain ⟨k1, hk1'⟩ : ∃ k1, k1 = k + 1 := ⟨_, rfl⟩
      obtain ⟨tot, htot⟩ : ∃ tot, tot = m2 * k1 := ⟨_, rfl⟩
      have e1 : (2 : Int) * (i : Int) = (m2 : Int) := by omega
      have e2 : (k : Int) + 1 = (k1 : Int) := by omega
      have e3 : (m2 : Int) * (k1 : Int) = (tot : Int) := by rw [htot]; exact (Int.natCast_mul _ _).symm
      obtain ⟨t3, ht3⟩ : ∃ t3, t3 = 3 + tot := ⟨_, rfl⟩
      have e4 : (3 : Int) + (tot : Int) = (t3 : Int) := by omega
      have hb1 : m2 ≤ 40 := by omega
      have hb2 : k1 ≤ 67 := by omega
      have hb3 : tot ≤ 2680 := by rw [htot]; exact Nat.le_trans (Nat.mul_le_mul hb1 hb2) (by decide)
      have hw : wantL i k = if 16 < i ∨ (0 < i ∧ 64 < k) then 1 else if 2048 < t3 then 3 else 0 := by unfold wantL; rw [ht3, htot, hm2, hk1']
      have hsz2 : q = 0 → key.size = t3 := fun h => by have := HSZ.out h; rw [ht3, htot, hm2, hk1']; exact this
      have hb4 : t3 ≤ 3000 := by omega
      rw [← HQ.out] at hw
      have HT3 := Lib.hid ht3
      have HTOT := Lib.hid htot
      clear htot hm2 hk1' HQ HSZ ht3
      by_cases c1 : 16 < i
      · have q1 : (16 : Int) < i := by omega
        rw [if_pos (.inl c1)] at hw
        subst hw
        clear c1 hsz2
        go_wp2
        go_ret
        exact ⟨by first | rfl | simp, B7.out⟩
      · have q1 : decide ((16 : Int) < i) = false := by simp; omega
        by_cases c2 : 0 < i ∧ 64 < k
        · have q2 : (0 : Int) < i := by omega
          have q3 : (64 : Int) < k := by omega
          rw [if_pos (.inr c2)] at hw
          subst hw
          clear c1 c2 hsz2
          go_wp2
          go_ret
          exact ⟨by first | rfl | simp, B7.out⟩
        · rw [if_neg (by omega)] at hw
          rcases Nat.eq_zero_or_pos i with c4 | c4
          · subst c4
            have et : t3 = 3 := by rw [HT3.out]; have h1 : m2 = 0 := by omega
                                   rw [HTOT.out, h1, Nat.zero_mul]
            rw [if_neg (by omega)] at hw
            subst hw
            have ez : (key.size : Int) = 3 := by have := hsz2 rfl; omega
            clear hsz2 et e1 e2 e3 e4 hb1 hb2 hb3 hb4 c1 c2
            go_wp2
            go_ret
            exact ⟨by first | rfl | simp, B7.out⟩
          · have q2 : (0 : Int) < i := by omega
            have q3 : decide ((64 : Int) < k) = false := by simp; omega
            clear c4 c2 c1
            by_cases c3 : 2048 < t3
            · have q4 : (2048 : Int) < t3 := by omega
              rw [if_pos c3] at hw
              subst hw
              clear hsz2 c3
              go_wp2
              go_ret
              exact ⟨by first | rfl | simp, B7.out⟩
            · have q4 : decide ((2048 : Int) < t3) = false := by simp; omega
              rw [if_neg c3] at hw
              subst hw
              have ez : (key.size : Int) = (t3 : Int) := by have := hsz2 rfl; omega
              clear hsz2 c3
              go_wp2
              go_ret
              exact ⟨by first | rfl | simp, B7.out⟩
theorem LabelLong_int (w : World) (a b : Int) (ha : 0 ≤ a ∧ a ≤ 255) (hb : 0 ≤ b ∧ b ≤ 255) :
    Calls Try.prog 5 #[.int .u8 a, .int .u8 b] w fun e w' => e = .returned (.bool true) ∧ Below w.heap.size w w' := by
  obtain ⟨m, rfl⟩ := Int.eq_ofNat_of_zero_le ha.1
  obtain ⟨n, rfl⟩ := Int.eq_ofNat_of_zero_le hb.1
  exact LabelLong_any w m n (by omega) (by omega)
end Go.Proofs.Ytlmnniajindlgaa.HLab
