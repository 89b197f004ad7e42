/- The walk of SlotChurn. -/
import Derived.Test.YtjlhpnnkhiojfaaSlotEx
import Derived.Laws.BytesArg
namespace Go.Proofs.Ytjlhpnnkhiojfaa.HSlot
set_option linter.unusedVariables false
open Go.RowKit Go.Proofs.Ytjlhpnnkhiojfaa.Print Go.Proofs.Ytjlhpnnkhiojfaa.HSip Go.Proofs.YtjlhpnnkhiojfaaW.PrintWords Go.Proofs.YtjlhpnnkhiojfaaW.PrintLast Go.Proofs.YtjlhpnnkhiojfaaW.PrintMore

theorem bytes_str (l : List Int) (h : ∀ x ∈ l, 0 ≤ x ∧ x ≤ 255) : bytesOf (strOfNums l) = l := by
  unfold bytesOf
  rw [strOfNums_data, List.map_map]
  conv => rhs; rw [← List.map_id l]
  refine List.map_congr_left fun x hx => ?_
  have := h x hx
  simp only [Function.comp, id, UInt8.toNat_ofNat']
  omega
def ck (m : Nat) : ByteArray := strOfNums [(m : Int) / 65536, (m : Int) / 256, (m : Int) % 256, 107]
theorem ck_size (m : Nat) : (ck m).size = 4 := by unfold ck; rw [strOfNums_size]; rfl
theorem ck_ne (m : Nat) : ck m ≠ E0 := by
  intro h
  have := ck_size m
  rw [h] at this
  simp [ByteArray.size] at this
theorem ck_ok (m : Nat) : ¬ badKey (ck m) := fun h => h.elim (ck_ne m) (by rw [ck_size]; omega)
theorem ck_inj (m k : Nat) (hm : m < 65536) (hk : k < 65536) (h : ck m = ck k) : m = k := by
  have h1 := bytes_str [(m : Int) / 65536, (m : Int) / 256, (m : Int) % 256, 107] (by simp; omega)
  have h2 := bytes_str [(k : Int) / 65536, (k : Int) / 256, (k : Int) % 256, 107] (by simp; omega)
  unfold ck at h
  rw [h] at h1
  rw [h1] at h2
  simp only [List.cons.injEq, and_true] at h2
  omega

theorem key_any (m : Nat) (hm : m < 65536) (w : World) : Calls Try.prog 9 #[.int .i64 m] w fun e w' => e = .returned (.string (ck m)) ∧ Below w.heap.size w w' := by
  obtain ⟨W, hW⟩ : ∃ W, W = w.alloc (Obj.cells #[.int .u8 ((m : Int) / 65536), .int .u8 ((m : Int) / 256), .int .u8 ((m : Int) % 256), .int .u8 107] 5) := ⟨_, rfl⟩
  have hcv := run_convert_bytes_arg (P := Try.prog) W 29 5 Try.underlying29 Try.underlying5 w.heap.size 0 4 4 [(m : Int) / 65536, (m : Int) / 256, (m : Int) % 256, 107] rfl (fun i hi => by
    rw [hW, Nat.zero_add]
    match i, hi with
    | 0, _ => simp
    | 1, _ => simp
    | 2, _ => simp
    | 3, _ => simp) 9 Try.underlying9
  rw [hW] at hcv
  have E := Lib.hid (show ck m = strOfNums [(m : Int) / 65536, (m : Int) / 256, (m : Int) % 256, 107] from rfl)
  obtain ⟨s, hs⟩ : ∃ s, s = strOfNums [(m : Int) / 65536, (m : Int) / 256, (m : Int) % 256, 107] := ⟨_, rfl⟩
  rw [← hs] at hcv E
  clear hs hW
  go_enter Try.func9, Try.ntmps9
  go_wp2
  go_ret
  exact ⟨by rw [E.out]; rfl, (Below.refl _ _).alloc (Nat.le_refl _) _⟩

/-- The state ahead of round k. -/
def KC (n : Nat) : Nat → Nat → ByteArray
  | 0 => fun _ => E0
  | k + 1 => up (KC n k) (k % n) (ck k)
def lastm (n k j : Nat) : Nat := j + n * ((k - 1 - j) / n)
theorem KC_at (n : Nat) (hn : 1 ≤ n ∧ n ≤ 8) : ∀ k j, KC n k j = if j < n ∧ j < k then ck (lastm n k j) else E0
  | 0, j => by rw [if_neg (by omega)]; rfl
  | k + 1, j => by
    show (if j = k % n then ck k else KC n k j) = _
    rw [KC_at n hn k j]
    unfold lastm
    have hc : n = 1 ∨ n = 2 ∨ n = 3 ∨ n = 4 ∨ n = 5 ∨ n = 6 ∨ n = 7 ∨ n = 8 := by omega
    rcases hc with rfl | rfl | rfl | rfl | rfl | rfl | rfl | rfl
    · by_cases h : j = k % 1
      · rw [if_pos h, if_pos (by omega)]
        congr 1; omega
      · rw [if_neg h]
        by_cases h2 : j < 1 ∧ j < k
        · rw [if_pos h2, if_pos (by omega)]
          congr 1; omega
        · rw [if_neg h2, if_neg (by omega)]
    · by_cases h : j = k % 2
      · rw [if_pos h, if_pos (by omega)]
        congr 1; omega
      · rw [if_neg h]
        by_cases h2 : j < 2 ∧ j < k
        · rw [if_pos h2, if_pos (by omega)]
          congr 1; omega
        · rw [if_neg h2, if_neg (by omega)]
    · by_cases h : j = k % 3
      · rw [if_pos h, if_pos (by omega)]
        congr 1; omega
      · rw [if_neg h]
        by_cases h2 : j < 3 ∧ j < k
        · rw [if_pos h2, if_pos (by omega)]
          congr 1; omega
        · rw [if_neg h2, if_neg (by omega)]
    · by_cases h : j = k % 4
      · rw [if_pos h, if_pos (by omega)]
        congr 1; omega
      · rw [if_neg h]
        by_cases h2 : j < 4 ∧ j < k
        · rw [if_pos h2, if_pos (by omega)]
          congr 1; omega
        · rw [if_neg h2, if_neg (by omega)]
    · by_cases h : j = k % 5
      · rw [if_pos h, if_pos (by omega)]
        congr 1; omega
      · rw [if_neg h]
        by_cases h2 : j < 5 ∧ j < k
        · rw [if_pos h2, if_pos (by omega)]
          congr 1; omega
        · rw [if_neg h2, if_neg (by omega)]
    · by_cases h : j = k % 6
      · rw [if_pos h, if_pos (by omega)]
        congr 1; omega
      · rw [if_neg h]
        by_cases h2 : j < 6 ∧ j < k
        · rw [if_pos h2, if_pos (by omega)]
          congr 1; omega
        · rw [if_neg h2, if_neg (by omega)]
    · by_cases h : j = k % 7
      · rw [if_pos h, if_pos (by omega)]
        congr 1; omega
      · rw [if_neg h]
        by_cases h2 : j < 7 ∧ j < k
        · rw [if_pos h2, if_pos (by omega)]
          congr 1; omega
        · rw [if_neg h2, if_neg (by omega)]
    · by_cases h : j = k % 8
      · rw [if_pos h, if_pos (by omega)]
        congr 1; omega
      · rw [if_neg h]
        by_cases h2 : j < 8 ∧ j < k
        · rw [if_pos h2, if_pos (by omega)]
          congr 1; omega
        · rw [if_neg h2, if_neg (by omega)]
theorem last_at (n k j : Nat) (hn : 1 ≤ n ∧ n ≤ 8) (h : j < n ∧ j < k) : lastm n k j < k ∧ (n ≤ k → j = k % n → lastm n k j = k - n) := by
  unfold lastm
  have hc : n = 1 ∨ n = 2 ∨ n = 3 ∨ n = 4 ∨ n = 5 ∨ n = 6 ∨ n = 7 ∨ n = 8 := by omega
  rcases hc with rfl | rfl | rfl | rfl | rfl | rfl | rfl | rfl <;> omega
theorem KC_slot (n k : Nat) (hn : 1 ≤ n ∧ n ≤ 8) (h : n ≤ k) : KC n k (k % n) = ck (k - n) := by
  have hm : k % n < n := Nat.mod_lt _ (by omega)
  rw [KC_at n hn, if_pos ⟨hm, by omega⟩, (last_at n k (k % n) hn ⟨hm, by omega⟩).2 h rfl]
/-- What round k finds ahead of its Add. -/
def KA (n k : Nat) : Nat → ByteArray := if n ≤ k then up (KC n k) (k % n) E0 else KC n k
theorem KA_at (n k j : Nat) (hn : 1 ≤ n ∧ n ≤ 8) : KA n k j = if j < n ∧ j < k ∧ j ≠ k % n then ck (lastm n k j) else E0 := by
  unfold KA
  by_cases h : n ≤ k
  · rw [if_pos h]
    show (if j = k % n then E0 else KC n k j) = _
    by_cases e : j = k % n
    · rw [if_pos e, if_neg (by omega)]
    · rw [if_neg e, KC_at n hn]
      by_cases g : j < n ∧ j < k
      · rw [if_pos g, if_pos ⟨g.1, g.2, e⟩]
      · rw [if_neg g, if_neg (fun h => g ⟨h.1, h.2.1⟩)]
  · rw [if_neg h, KC_at n hn]
    have : k % n = k := Nat.mod_eq_of_lt (by omega)
    by_cases g : j < n ∧ j < k
    · rw [if_pos g, if_pos ⟨g.1, g.2, by omega⟩]
    · rw [if_neg g, if_neg (fun h => g ⟨h.1, h.2.1⟩)]
theorem KA_no (n k : Nat) (hn : 1 ≤ n ∧ n ≤ 8) (hk : k < 65536) : NoK (KA n k) (ck k) := fun i hi => by
  rw [KA_at n k i hn] at hi ⊢
  by_cases g : i < n ∧ i < k ∧ i ≠ k % n
  · rw [if_pos g]
    have := (last_at n k i hn ⟨g.1, g.2.1⟩).1
    intro e
    have := ck_inj _ _ (by omega) hk e
    omega
  · rw [if_neg g] at hi; exact absurd rfl hi
theorem KA_free (n k : Nat) (hn : 1 ≤ n ∧ n ≤ 8) : KA n k (k % n) = E0 ∧ ∀ j, j < k % n → KA n k j ≠ E0 := by
  refine ⟨by rw [KA_at n k _ hn, if_neg (by omega)], fun j hj => ?_⟩
  have hm : k % n < n := Nat.mod_lt _ (by omega)
  have hle : k % n ≤ k := Nat.mod_le _ _
  rw [KA_at n k j hn, if_pos ⟨by omega, by omega, by omega⟩]
  exact ck_ne _
theorem KA_up (n k : Nat) : up (KA n k) (k % n) (ck k) = KC n (k + 1) := by
  show _ = up (KC n k) (k % n) (ck k)
  unfold KA
  split
  · funext j
    unfold up
    by_cases e : j = k % n
    · rw [if_pos e, if_pos e]
    · rw [if_neg e, if_neg e, if_neg e]
  · rfl
theorem KC_cn (n k : Nat) (hn : 1 ≤ n ∧ n ≤ 8) : cn (has (KC n k)) 256 = min n k := by
  rw [cn_tail (has (KC n k)) (min n k) (fun i hi => by unfold has; rw [KC_at n hn, if_neg (by omega)]; simp) 256 (by omega)]
  exact cn_full _ _ fun i hi => by unfold has; rw [KC_at n hn, if_pos (by omega)]; simpa using ck_ne _

set_option maxRecDepth 20000 in
set_option maxHeartbeats 4000000 in
theorem SlotChurn_any (room times : Nat) (hr : room < 256) (ht : times < 65536) (w : World) :
    Calls Try.prog 3 #[.int .u8 room, .int .u16 times] w fun e w' => e = .returned (.bool true) ∧ Below w.heap.size w w' := by
  obtain ⟨n, hn⟩ : ∃ n, n = 1 + room % 8 := ⟨_, rfl⟩
  have hn8 : 1 ≤ n ∧ n ≤ 8 := by omega
  have en : (1 : Int) + (room : Int) % 8 = (n : Int) := by omega
  obtain ⟨T, hT⟩ : ∃ T, T = times % 2001 := ⟨_, rfl⟩
  have hT2 : T ≤ 2000 := by omega
  have eT : (times : Int) % 2001 = (T : Int) := by omega
  have EN := Lib.hid hn
  have ET := Lib.hid hT
  clear hn hT
  go_enter Try.func3, Try.ntmps3
  go_wp2_with fail
  refine (examples_any _).mono ?_
  rintro e w0 ⟨rfl, b0⟩
  have B0 := Lib.hid b0
  clear b0
  go_wp2_with fail
  have e1 : (1 : Int) + (room : Int) % 8 = (n : Int) := en
  try rw [e1]
  refine (u_new _ n (by omega)).mono ?_
  rintro e w1 ⟨rfl, s1, b1⟩
  obtain ⟨b, hb⟩ : ∃ b, b = w0.heap.size := ⟨_, rfl⟩
  rw [← hb] at s1 ⊢
  have S1 := Lib.hid (show SK w1 b n (KC n 0) from s1)
  have HB := Lib.hid (show w.heap.size ≤ b by rw [hb]; exact B0.out.size)
  have B1 := Lib.hid (B0.out.trans (b1.mono B0.out.size))
  clear s1 b1 hb
  go_wp2_with fail
  go_loopw [10] (fun i wr => ∃ k : Nat, k ≤ T ∧ i = .int .i64 k ∧ SK wr b n (KC n k) ∧ Below w.heap.size w wr) (fun i _ => 3000 - (intOf i).toNat)
  case atStart => exact ⟨0, Nat.zero_le _, rfl, S1.out, B1.out⟩
  case round =>
    obtain ⟨k, hk, rfl, sk, bk⟩ := hrel
    have SK1 := Lib.hid sk
    have BK1 := Lib.hid bk
    clear sk bk
    rcases Nat.lt_or_ge k T with hlt | hge
    · have hk1 : (k : Int) < T := by omega
      have et : (k : Int).tmod n = ((k % n : Nat) : Int) := by rw [Int.tmod_eq_emod_of_nonneg (by omega)]; exact (Int.natCast_emod _ _).symm
      have hm : k % n < n := Nat.mod_lt _ (by omega)
      by_cases hkn : n ≤ k
      · have hkn1 : (n : Int) ≤ k := by omega
        have hkn2 : ¬ (k : Int) < n := by omega
        have es : wrap64 ((k : Int) - n) = ((k - n : Nat) : Int) := by unfold wrap64; omega
        have es2 : (k : Int) - n = ((k - n : Nat) : Int) := by omega
        go_wp2_with fail
        refine (key_any (k - n) (by omega) _).mono ?_
        rintro e w2 ⟨rfl, hb2⟩
        have SK2 := Lib.hid (SK1.out.mono hb2)
        have BK2 := Lib.hid (BK1.out.trans (hb2.mono BK1.out.size))
        clear hb2
        go_wp2_with fail
        refine (u_drop_yes SK2.out (k % n) (KC_slot n k hn8 hkn) (ck_ne _) (by rw [ck_size]; omega)).mono ?_
        rintro e w3 ⟨rfl, s3, u3⟩
        have SA := Lib.hid (show SK w3 b n (KA n k) by unfold KA; rw [if_pos hkn]; exact s3)
        have BA := Lib.hid (u3.bel BK2.out HB.out SK2.out.lt)
        clear s3 u3
        -- Add
        have KF := KA_free n k hn8
        go_wp2_with fail
        refine (key_any k (by omega) _).mono ?_
        rintro e w4 ⟨rfl, hb4⟩
        have SA4 := Lib.hid (SA.out.mono hb4)
        have BA4 := Lib.hid (BA.out.trans (hb4.mono BA.out.size))
        clear hb4
        go_wp2_with fail
        refine (u_add_new SA4.out (k % n) (ck_ok k) (KA_no n k hn8 (by omega)) (by omega) KF.1 KF.2).mono ?_
        rintro e w5 ⟨rfl, s5, u5⟩
        rw [KA_up] at s5
        have S5 := Lib.hid s5
        have B5 := Lib.hid (u5.bel BA4.out HB.out SA4.out.lt)
        clear s5 u5 KF
        go_wp2
        go_roundw
        case rel => exact ⟨k + 1, by omega, by go_num, S5.out, B5.out⟩
        case measure => simp [intOf]; omega
      · have hkn1 : (k : Int) < n := by omega
        have hkn2 : ¬ (n : Int) ≤ k := by omega
        have SA := Lib.hid (show SK wr b n (KA n k) by unfold KA; rw [if_neg hkn]; exact SK1.out)
        have BA := BK1
        -- Add
        have KF := KA_free n k hn8
        go_wp2_with fail
        refine (key_any k (by omega) _).mono ?_
        rintro e w4 ⟨rfl, hb4⟩
        have SA4 := Lib.hid (SA.out.mono hb4)
        have BA4 := Lib.hid (BA.out.trans (hb4.mono BA.out.size))
        clear hb4
        go_wp2_with fail
        refine (u_add_new SA4.out (k % n) (ck_ok k) (KA_no n k hn8 (by omega)) (by omega) KF.1 KF.2).mono ?_
        rintro e w5 ⟨rfl, s5, u5⟩
        rw [KA_up] at s5
        have S5 := Lib.hid s5
        have B5 := Lib.hid (u5.bel BA4.out HB.out SA4.out.lt)
        clear s5 u5 KF
        go_wp2
        go_roundw
        case rel => exact ⟨k + 1, by omega, by go_num, S5.out, B5.out⟩
        case measure => simp [intOf]; omega
    · have hk1 : ¬ (k : Int) < T := by omega
      have hkT : k = T := by omega
      subst hkT
      have hcn := KC_cn n k hn8
      go_wp2_with fail
      have LL := u_len SK1.out
      rw [hcn] at LL
      rcases Nat.lt_or_ge k n with hkn | hkn
      · rw [show min n k = k by omega] at LL
        have hm1 : (k : Int) < n := by omega
        have hm2 : (k : Int) ≤ n := by omega
        have hm3 : ¬ (n : Int) ≤ k := by omega
        refine LL.mono ?_
        rintro e w2 ⟨rfl, hb2⟩
        have B2 := Lib.hid (BK1.out.trans (hb2.mono BK1.out.size))
        clear hb2 LL hcn
        go_wp2
        go_ret
        exact ⟨rfl, B2.out⟩
      · rw [show min n k = n by omega] at LL
        have hm1 : (n : Int) ≤ k := by omega
        have hm2 : ¬ (k : Int) < n := by omega
        refine LL.mono ?_
        rintro e w2 ⟨rfl, hb2⟩
        have B2 := Lib.hid (BK1.out.trans (hb2.mono BK1.out.size))
        clear hb2 LL hcn
        go_wp2
        go_ret
        exact ⟨rfl, B2.out⟩
theorem SlotChurn_at (room times : Int) (h1 : (Lit.int .u8 room).wf = true) (h2 : (Lit.int .u16 times).wf = true) (w : World) :
    Calls Try.prog 3 #[.int .u8 room, .int .u16 times] w fun e w' => e = .returned (.bool true) ∧ Below w.heap.size w w' := by
  have b1 : 0 ≤ room ∧ room ≤ 255 := by simpa [Lit.wf, IntKind.min, IntKind.max, IntKind.signed, IntKind.bits] using h1
  have b2 : 0 ≤ times ∧ times ≤ 65535 := by simpa [Lit.wf, IntKind.min, IntKind.max, IntKind.signed, IntKind.bits] using h2
  obtain ⟨a, rfl⟩ : ∃ a : Nat, room = a := ⟨room.toNat, by omega⟩
  obtain ⟨c, rfl⟩ : ∃ a : Nat, times = a := ⟨times.toNat, by omega⟩
  exact SlotChurn_any a c (by omega) (by omega) w

end Go.Proofs.Ytjlhpnnkhiojfaa.HSlot
