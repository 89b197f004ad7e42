/- The walk of SlotLowest. -/
import Derived.Test.YtjlhpnnkhiojfaaSlotChurn
namespace Go.Proofs.Ytjlhpnnkhiojfaa.HSlot
set_option linter.unusedVariables false
open Go.RowKit Go.Proofs.Ytjlhpnnkhiojfaa.Print Go.Proofs.Ytjlhpnnkhiojfaa.HSip Go.Proofs.YtjlhpnnkhiojfaaW.PrintWords Go.Proofs.YtjlhpnnkhiojfaaW.PrintLast Go.Proofs.YtjlhpnnkhiojfaaW.PrintMore

def ca (j : Nat) : ByteArray := strOfNums [97 + (j : Int)]
def cw (j : Nat) : ByteArray := (⟨#[110, 101, 119]⟩ : ByteArray) ++ strOfNums [(j : Int)]
theorem ca_size (m : Nat) : (ca m).size = 1 := by unfold ca; rw [strOfNums_size]; rfl
theorem cw_size (m : Nat) : (cw m).size = 4 := by unfold cw; rw [ByteArray.size_append, strOfNums_size]; rfl
theorem ca_ne (m : Nat) : ca m ≠ E0 := fun h => by have := ca_size m; rw [h] at this; simp [ByteArray.size] at this
theorem cw_ne (m : Nat) : cw m ≠ E0 := fun h => by have := cw_size m; rw [h] at this; simp [ByteArray.size] at this
theorem ca_ok (m : Nat) : ¬ badKey (ca m) := fun h => h.elim (ca_ne m) (by rw [ca_size]; omega)
theorem cw_ok (m : Nat) : ¬ badKey (cw m) := fun h => h.elim (cw_ne m) (by rw [cw_size]; omega)
theorem caw_ne (m k : Nat) : ca m ≠ cw k := fun h => by have h1 := ca_size m; have h2 := cw_size k; rw [h] at h1; omega
theorem ca_inj (m k : Nat) (hm : m < 100) (hk : k < 100) (h : ca m = ca k) : m = k := by
  have h1 := bytes_str [97 + (m : Int)] (by simp; omega)
  have h2 := bytes_str [97 + (k : Int)] (by simp; omega)
  unfold ca at h
  rw [h, h2] at h1
  simp only [List.cons.injEq, and_true] at h1
  omega
theorem bytes_app (a b : ByteArray) : bytesOf (a ++ b) = bytesOf a ++ bytesOf b := by
  unfold bytesOf
  rw [ByteArray.data_append, Array.toList_append, List.map_append]
theorem cw_inj (m k : Nat) (hm : m < 100) (hk : k < 100) (h : cw m = cw k) : m = k := by
  have h1 := bytes_str [(m : Int)] (by simp; omega)
  have h2 := bytes_str [(k : Int)] (by simp; omega)
  have h3 := congrArg bytesOf h
  unfold cw at h3
  rw [bytes_app, bytes_app, h1, h2] at h3
  simp at h3
  omega
theorem cw_more (m : Nat) : cw m ≠ ⟨#[109, 111, 114, 101]⟩ := fun h => by
  have h3 := congrArg bytesOf h
  unfold cw at h3
  rw [bytes_app] at h3
  simp [bytesOf] at h3
theorem ca_more (m : Nat) : ca m ≠ ⟨#[109, 111, 114, 101]⟩ := fun h => by
  have := ca_size m
  rw [h] at this
  simp [ByteArray.size] at this
def bit (g j : Nat) : Prop := g / 2 ^ j % 2 = 1
instance (g j : Nat) : Decidable (bit g j) := by unfold bit; infer_instance
def LA (k : Nat) : Nat → ByteArray := fun j => if j < k then ca j else E0
def LB (g n k : Nat) : Nat → ByteArray := fun j => if j < n then (if j < k ∧ bit g j then E0 else ca j) else E0
def LC (g n k : Nat) : Nat → ByteArray := fun j => if j < n then (if bit g j then (if j < k then cw j else E0) else ca j) else E0
theorem LA_up (k : Nat) : up (LA k) k (ca k) = LA (k + 1) := by
  funext j
  unfold up LA
  by_cases e : j = k
  · rw [if_pos e, if_pos (by omega), e]
  · rw [if_neg e]
    by_cases h : j < k
    · rw [if_pos h, if_pos (by omega)]
    · rw [if_neg h, if_neg (by omega)]
theorem LA_no (k : Nat) (hk : k < 100) : NoK (LA k) (ca k) := fun i hi => by
  unfold LA at hi ⊢
  by_cases h : i < k
  · rw [if_pos h]
    intro e
    have := ca_inj i k (by omega) hk e
    omega
  · rw [if_neg h] at hi; exact absurd rfl hi
theorem LAB (g n : Nat) : LA n = LB g n 0 := by
  funext j
  unfold LA LB
  by_cases h : j < n
  · rw [if_pos h, if_pos h, if_neg (by omega)]
  · rw [if_neg h, if_neg h]
theorem LB_up (g n k : Nat) (hk : k < n) (hb : bit g k) : up (LB g n k) k E0 = LB g n (k + 1) := by
  funext j
  unfold up LB
  by_cases e : j = k
  · rw [if_pos e, e, if_pos hk, if_pos ⟨by omega, hb⟩]
  · rw [if_neg e]
    by_cases h : j < n
    · rw [if_pos h, if_pos h]
      by_cases h2 : j < k ∧ bit g j
      · rw [if_pos h2, if_pos ⟨by omega, h2.2⟩]
      · rw [if_neg h2, if_neg (fun h3 => h2 ⟨by omega, h3.2⟩)]
    · rw [if_neg h, if_neg h]
theorem LB_not (g n k : Nat) (hb : ¬ bit g k) : LB g n k = LB g n (k + 1) := by
  funext j
  unfold LB
  by_cases h : j < n
  · rw [if_pos h, if_pos h]
    by_cases h2 : j < k ∧ bit g j
    · rw [if_pos h2, if_pos ⟨by omega, h2.2⟩]
    · rw [if_neg h2, if_neg (fun h3 => h2 ⟨by
        have : j ≠ k := fun e => hb (e ▸ h3.2)
        omega, h3.2⟩)]
  · rw [if_neg h, if_neg h]
theorem LB_at (g n k : Nat) (hk : k < n) : LB g n k k = ca k := by unfold LB; rw [if_pos hk, if_neg (by omega)]
theorem LBC (g n : Nat) : LB g n n = LC g n 0 := by
  funext j
  unfold LB LC
  by_cases h : j < n
  · rw [if_pos h, if_pos h]
    by_cases h2 : bit g j
    · rw [if_pos ⟨h, h2⟩, if_pos h2, if_neg (by omega)]
    · rw [if_neg (fun h3 => h2 h3.2), if_neg h2]
  · rw [if_neg h, if_neg h]
theorem LC_up (g n k : Nat) (hk : k < n) (hb : bit g k) : up (LC g n k) k (cw k) = LC g n (k + 1) := by
  funext j
  unfold up LC
  by_cases e : j = k
  · rw [if_pos e, e, if_pos hk, if_pos hb, if_pos (by omega)]
  · rw [if_neg e]
    by_cases h : j < n
    · rw [if_pos h, if_pos h]
      by_cases h2 : bit g j
      · rw [if_pos h2, if_pos h2]
        by_cases h3 : j < k
        · rw [if_pos h3, if_pos (by omega)]
        · rw [if_neg h3, if_neg (by omega)]
      · rw [if_neg h2, if_neg h2]
    · rw [if_neg h, if_neg h]
theorem LC_not (g n k : Nat) (hb : ¬ bit g k) : LC g n k = LC g n (k + 1) := by
  funext j
  unfold LC
  by_cases h : j < n
  · rw [if_pos h, if_pos h]
    by_cases h2 : bit g j
    · rw [if_pos h2, if_pos h2]
      have : j ≠ k := fun e => hb (e ▸ h2)
      by_cases h3 : j < k
      · rw [if_pos h3, if_pos (by omega)]
      · rw [if_neg h3, if_neg (by omega)]
    · rw [if_neg h2, if_neg h2]
  · rw [if_neg h, if_neg h]
theorem LC_free (g n k : Nat) (hk : k < n) (hb : bit g k) : LC g n k k = E0 ∧ ∀ j, j < k → LC g n k j ≠ E0 := by
  refine ⟨by unfold LC; rw [if_pos hk, if_pos hb, if_neg (by omega)], fun j hj => ?_⟩
  unfold LC
  rw [if_pos (by omega)]
  by_cases h2 : bit g j
  · rw [if_pos h2, if_pos hj]; exact cw_ne j
  · rw [if_neg h2]; exact ca_ne j
theorem LC_no (g n k : Nat) (hn : n < 100) (hk : k < n) : NoK (LC g n k) (cw k) := fun i hi => by
  unfold LC at hi ⊢
  by_cases h : i < n
  · rw [if_pos h] at hi ⊢
    by_cases h2 : bit g i
    · rw [if_pos h2] at hi ⊢
      by_cases h3 : i < k
      · rw [if_pos h3]
        intro e
        have := cw_inj i k (by omega) (by omega) e
        omega
      · rw [if_neg h3] at hi; exact absurd rfl hi
    · rw [if_neg h2]; exact caw_ne i k
  · rw [if_neg h] at hi; exact absurd rfl hi
theorem LC_full (g n : Nat) (s : Nat) (hs : s < n) : LC g n n s ≠ E0 := by
  unfold LC
  rw [if_pos hs]
  by_cases h2 : bit g s
  · rw [if_pos h2, if_pos hs]; exact cw_ne s
  · rw [if_neg h2]; exact ca_ne s
theorem LC_more (g n : Nat) : NoK (LC g n n) ⟨#[109, 111, 114, 101]⟩ := fun i hi => by
  unfold LC at hi ⊢
  by_cases h : i < n
  · rw [if_pos h] at hi ⊢
    by_cases h2 : bit g i
    · rw [if_pos h2] at hi ⊢
      rw [if_pos h]; exact cw_more i
    · rw [if_neg h2]; exact ca_more i
  · rw [if_neg h] at hi; exact absurd rfl hi
theorem LC_cn (g n : Nat) (hn : n ≤ 256) : cn (has (LC g n n)) 256 = n := by
  rw [cn_tail (has (LC g n n)) n (fun i hi => by unfold has LC; rw [if_neg (by omega)]; simp) 256 hn]
  exact cn_full _ _ fun i hi => by unfold has; simpa using LC_full g n i hi

theorem tmod_bit (h i b : Nat) (hb : h / 2 ^ i % 2 = b) : (((h : Int) / 2 ^ i).tmod 2 == 1) = (b == 1) := by
  have e : ((h : Int) / 2 ^ i).tmod 2 = ((h / 2 ^ i % 2 : Nat) : Int) := by
    rw [show (h : Int) / 2 ^ i = ((h / 2 ^ i : Nat) : Int) from by push_cast; rfl]
    rfl
  rw [e, hb]
  rw [Bool.eq_iff_iff, beq_iff_eq, beq_iff_eq]
  omega
theorem tmod_zero (h i b : Nat) (hb : h / 2 ^ i % 2 = b) : (((h : Int) / 2 ^ i).tmod 2 == 0) = (b == 0) := by
  have e : ((h : Int) / 2 ^ i).tmod 2 = ((h / 2 ^ i % 2 : Nat) : Int) := by
    rw [show (h : Int) / 2 ^ i = ((h / 2 ^ i : Nat) : Int) from by push_cast; rfl]
    rfl
  rw [e, hb]
  rw [Bool.eq_iff_iff, beq_iff_eq, beq_iff_eq]
  omega
/-- A row of one byte as a text. -/
theorem cv_one (w : World) (x : Int) : (convert 29 9 (.slice (some ⟨w.heap.size, 0, none⟩) 1 1)).run Try.prog (w.alloc (Obj.cells #[.int .u8 x] 5)) = .ok (.string (strOfNums [x])) (w.alloc (Obj.cells #[.int .u8 x] 5)) :=
  run_convert_bytes_arg (P := Try.prog) (w.alloc (Obj.cells #[.int .u8 x] 5)) 29 5 Try.underlying29 Try.underlying5 w.heap.size 0 1 1 [x] rfl (fun i hi => by
    rw [Nat.zero_add]
    match i, hi with
    | 0, _ => simp) 9 Try.underlying9

set_option maxRecDepth 20000 in
set_option maxHeartbeats 4000000 in
theorem SlotLowest_any (room g : Nat) (hr : room < 256) (hg : g < 65536) (w : World) :
    Calls Try.prog 4 #[.int .u8 room, .int .u16 g] w fun e w' => e = .returned (.bool true) ∧ Below w.heap.size w w' := by
  obtain ⟨n, hn⟩ : ∃ n, n = 1 + room % 16 := ⟨_, rfl⟩
  have hn8 : 1 ≤ n ∧ n ≤ 16 := by omega
  have en : (1 : Int) + (room : Int) % 16 = (n : Int) := by omega
  have EN := Lib.hid hn
  clear hn
  go_enter Try.func4, Try.ntmps4
  go_wp2_with fail
  refine (examples_any _).mono ?_
  rintro e w0 ⟨rfl, b0⟩
  have B0 := Lib.hid b0
  clear b0
  go_wp2_with fail
  refine (u_new _ n (by omega)).mono ?_
  rintro e w1 ⟨rfl, s1, b1⟩
  obtain ⟨b, hb⟩ : ∃ b, b = w0.heap.size := ⟨_, rfl⟩
  rw [← hb] at s1 ⊢
  have S1 := Lib.hid (show SK w1 b n (LA 0) by
    have : LA 0 = fun _ => E0 := by funext j; unfold LA; rw [if_neg (by omega)]
    rw [this]; exact s1)
  have HB := Lib.hid (show w.heap.size ≤ b by rw [hb]; exact B0.out.size)
  have B1 := Lib.hid (B0.out.trans (b1.mono B0.out.size))
  clear s1 b1 hb
  go_wp2_with fail
  go_loopw [9] (fun i wr => ∃ k : Nat, k ≤ n ∧ i = .int .i64 k ∧ SK wr b n (LA k) ∧ Below w.heap.size w wr) (fun i _ => 300 - (intOf i).toNat)
  case atStart => exact ⟨0, Nat.zero_le _, rfl, S1.out, B1.out⟩
  case round =>
    obtain ⟨k, hk, rfl, sk, bk⟩ := hrel
    have SK1 := Lib.hid sk
    have BK1 := Lib.hid bk
    clear sk bk
    rcases Nat.lt_or_ge k n with hlt | hge
    · have hk1 : (k : Int) < n := by omega
      have hcv := cv_one wr (97 + k)
      have e1 : (97 + (k : Int)) % 256 = 97 + k := by omega
      go_wp2_with fail
      have SK2 := Lib.hid (SK1.out.mono ((Below.refl _ _).alloc (Nat.le_refl _) (Obj.cells #[.int .u8 (97 + (k : Int))] 5)))
      have BK2 := Lib.hid (BK1.out.alloc BK1.out.size (Obj.cells #[.int .u8 (97 + (k : Int))] 5))
      refine (u_add_new (key := ca k) SK2.out k (ca_ok k) (LA_no k (by omega)) (by omega) (by unfold LA; rw [if_neg (by omega)]) (fun j hj => by unfold LA; rw [if_pos hj]; exact ca_ne j)).mono ?_
      rintro e w2 ⟨rfl, s2, u2⟩
      rw [LA_up] at s2
      have S2 := Lib.hid s2
      have B2 := Lib.hid (u2.bel BK2.out HB.out SK2.out.lt)
      clear s2 u2 hcv
      go_wp2
      go_roundw
      case rel => exact ⟨k + 1, by omega, by go_num, S2.out, B2.out⟩
      case measure => simp [intOf]; omega
    · have hk1 : ¬ (k : Int) < n := by omega
      have hkn : k = n := by omega
      subst hkn
      have S2 := Lib.hid (show SK wr b k (LB g k 0) by rw [← LAB]; exact SK1.out)
      have B2 := BK1
      go_wp2_with fail
      -- LOOP 2
      go_loopw [12] (fun i wr => ∃ m : Nat, m ≤ k ∧ i = .int .i64 m ∧ SK wr b k (LB g k m) ∧ Below w.heap.size w wr) (fun i _ => 300 - (intOf i).toNat)
      case atStart => exact ⟨0, Nat.zero_le _, rfl, S2.out, B2.out⟩
      case round =>
        obtain ⟨m, hm, rfl, sk, bk⟩ := hrel
        have SM := Lib.hid sk
        have BM := Lib.hid bk
        clear sk bk
        rcases Nat.lt_or_ge m k with hlt | hge
        · have hm1 : (m : Int) < k := by omega
          have hm3 : (97 + (m : Int)) % 256 = 97 + m := by omega
          by_cases hbit : bit g m
          · have tb := tmod_bit g m 1 hbit
            rw [show ((1 : Nat) == 1) = true from rfl] at tb
            have hcv := cv_one wr (97 + m)
            go_wp2_with fail
            have SM2 := Lib.hid (SM.out.mono ((Below.refl _ _).alloc (Nat.le_refl _) (Obj.cells #[.int .u8 (97 + (m : Int))] 5)))
            have BM2 := Lib.hid (BM.out.alloc BM.out.size (Obj.cells #[.int .u8 (97 + (m : Int))] 5))
            refine (u_drop_yes (key := ca m) SM2.out m (LB_at g k m hlt) (ca_ne m) (by rw [ca_size]; omega)).mono ?_
            rintro e w3 ⟨rfl, s3, u3⟩
            rw [LB_up g k m hlt hbit] at s3
            have S3 := Lib.hid s3
            have B3 := Lib.hid (u3.bel BM2.out HB.out SM2.out.lt)
            clear s3 u3 hcv hbit tb
            go_wp2
            go_roundw
            case rel => exact ⟨m + 1, by omega, by go_num, S3.out, B3.out⟩
            case measure => simp [intOf]; omega
          · have tb := tmod_bit g m 0 (by unfold bit at hbit; omega)
            rw [show ((0 : Nat) == 1) = false from rfl] at tb
            have S3 := Lib.hid (show SK wr b k (LB g k (m + 1)) by rw [← LB_not g k m hbit]; exact SM.out)
            clear hbit
            go_wp2
            go_roundw
            case rel => exact ⟨m + 1, by omega, by go_num, S3.out, BM.out⟩
            case measure => simp [intOf]; omega
        · have hm1 : ¬ (m : Int) < k := by omega
          have hmk : m = k := by omega
          subst hmk
          have S4 := Lib.hid (show SK wr b m (LC g m 0) by rw [← LBC]; exact SM.out)
          have B4 := BM
          go_wp2_with fail
          -- LOOP 3
          go_loopw [13, 14] (fun a i wr => ∃ q c : Nat, q ≤ m ∧ c ≤ q ∧ a = .int .i64 c ∧ i = .int .i64 q ∧ SK wr b m (LC g m q) ∧ Below w.heap.size w wr) (fun _ i _ => 300 - (intOf i).toNat)
          case atStart => exact ⟨0, 0, Nat.zero_le _, Nat.zero_le _, rfl, rfl, S4.out, B4.out⟩
          case round =>
            obtain ⟨q, c, hq, hcq, rfl, rfl, sk, bk⟩ := hrel
            have SQ := Lib.hid sk
            have BQ := Lib.hid bk
            clear sk bk
            rcases Nat.lt_or_ge q m with hlt | hge
            · have hq1 : (q : Int) < m := by omega
              have hq3 : (q : Int) % 256 = q := by omega
              by_cases hbit : bit g q
              · have tb := tmod_zero g q 1 hbit
                rw [show ((1 : Nat) == 0) = false from rfl] at tb
                have hcv := cv_one wr q
                go_wp2_with fail
                have SQ2 := Lib.hid (SQ.out.mono ((Below.refl _ _).alloc (Nat.le_refl _) (Obj.cells #[.int .u8 (q : Int)] 5)))
                have BQ2 := Lib.hid (BQ.out.alloc BQ.out.size (Obj.cells #[.int .u8 (q : Int)] 5))
                have fr := LC_free g m q hlt hbit
                refine (u_add_new (key := cw q) SQ2.out q (cw_ok q) (LC_no g m q (by omega) hlt) (by omega) fr.1 fr.2).mono ?_
                rintro e w3 ⟨rfl, s3, u3⟩
                rw [LC_up g m q hlt hbit] at s3
                have S3 := Lib.hid s3
                have B3 := Lib.hid (u3.bel BQ2.out HB.out SQ2.out.lt)
                clear s3 u3 hcv hbit tb fr
                have ec : wrap64 ((c : Int) + 1) = (c : Int) + 1 := by unfold wrap64; omega
                go_wp2
                go_roundw
                case rel => exact ⟨q + 1, c + 1, by omega, by omega, by go_num, by go_num, S3.out, B3.out⟩
                case measure => simp [intOf]; omega
              · have tb := tmod_zero g q 0 (by unfold bit at hbit; omega)
                rw [show ((0 : Nat) == 0) = true from rfl] at tb
                have S3 := Lib.hid (show SK wr b m (LC g m (q + 1)) by rw [← LC_not g m q hbit]; exact SQ.out)
                clear hbit
                go_wp2
                go_roundw
                case rel => exact ⟨q + 1, c, by omega, by omega, rfl, by go_num, S3.out, BQ.out⟩
                case measure => simp [intOf]; omega
            · have hq1 : ¬ (q : Int) < m := by omega
              have hqm : q = m := by omega
              subst hqm
              go_wp2_with fail
              refine (u_add_full (key := ⟨#[109, 111, 114, 101]⟩) SQ.out (by decide) (LC_more g q) (fun s hs => LC_full g q s (by omega))).mono ?_
              rintro e w5 ⟨rfl, s5, u5⟩
              have S5 := Lib.hid s5
              have B5 := Lib.hid (u5.bel BQ.out HB.out SQ.out.lt)
              clear s5 u5
              go_wp2_with fail
              refine (u_add_bad (key := ⟨#[]⟩) S5.out (.inl rfl) (by decide)).mono ?_
              rintro e w6 ⟨rfl, s6, u6⟩
              have S6 := Lib.hid s6
              have B6 := Lib.hid (u6.bel B5.out HB.out S5.out.lt)
              clear s6 u6
              go_wp2_with fail
              have LL := u_len S6.out
              rw [LC_cn g q (by omega)] at LL
              refine LL.mono ?_
              rintro e w7 ⟨rfl, b7⟩
              have B7 := Lib.hid (B6.out.trans (b7.mono B6.out.size))
              have hc1 : (c : Int) ≤ q := by omega
              clear b7 LL
              go_wp2
              go_ret
              exact ⟨rfl, B7.out⟩
theorem SlotLowest_at (room g : Int) (h1 : (Lit.int .u8 room).wf = true) (h2 : (Lit.int .u16 g).wf = true) (w : World) :
    Calls Try.prog 4 #[.int .u8 room, .int .u16 g] w fun e w' => e = .returned (.bool true) ∧ Below w.heap.size w w' := by
  have b1 : 0 ≤ room ∧ room ≤ 255 := by simpa [Lit.wf, IntKind.min, IntKind.max, IntKind.signed, IntKind.bits] using h1
  have b2 : 0 ≤ g ∧ g ≤ 65535 := by simpa [Lit.wf, IntKind.min, IntKind.max, IntKind.signed, IntKind.bits] using h2
  obtain ⟨a, rfl⟩ : ∃ a : Nat, room = a := ⟨room.toNat, by omega⟩
  obtain ⟨c, rfl⟩ : ∃ a : Nat, g = a := ⟨g.toNat, by omega⟩
  exact SlotLowest_any a c (by omega) (by omega) w

end Go.Proofs.Ytjlhpnnkhiojfaa.HSlot
