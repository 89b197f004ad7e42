/- LabelSame's own list, walked. Conditions: none. -/
import Derived.Test.YtlmnniajindlgaaLabFew
import Derived.Test.YtlmnniajindlgaaLab8
import Derived.BigRegion
import Derived.Deep.CutBlock
import Derived.Deep.DeepCutAuto
namespace Go.Proofs.Ytlmnniajindlgaa.HLab
set_option linter.unusedVariables false
open Go.RowKit Go.Proofs.Ytlmnniajindlgaa.HMem Go.Proofs.Ytlmnniajindlgaa.HBld Go.Proofs.Ytlmnniajindlgaa.HApp

def oneB (n : Nat) : ByteArray := strOfNums [(n : Int)]
def lab1 (c : UInt8) : ByteArray × ByteArray := (oneB (97 + c.toNat % 5), oneB (97 + c.toNat / 5 % 3))
def addS (acc : LL) (x : ByteArray × ByteArray) : LL := if (getL acc x.1).isSome then acc else acc ++ [x]
def setL (xs : List UInt8) : LL := xs.foldl (fun acc c => addS acc (lab1 c)) []
theorem setL_take (xs : List UInt8) (j : Nat) (c : UInt8) (h : xs[j]? = some c) : setL (xs.take (j + 1)) = addS (setL (xs.take j)) (lab1 c) := by
  unfold setL
  rw [List.take_add_one, h, List.foldl_append]
  rfl
theorem addS_length (acc : LL) (x : ByteArray × ByteArray) : (addS acc x).length ≤ acc.length + 1 := by
  unfold addS
  split
  · omega
  · simp
theorem setL_length (xs : List UInt8) : (setL xs).length ≤ xs.length := by
  have key : ∀ (l : List UInt8) (acc : LL), (l.foldl (fun acc c => addS acc (lab1 c)) acc).length ≤ acc.length + l.length := by
    intro l
    induction l with
    | nil => intro acc; simp
    | cons c r ih =>
      intro acc
      have h1 := ih (addS acc (lab1 c))
      have h2 := addS_length acc (lab1 c)
      simp only [List.foldl_cons, List.length_cons]
      omega
  have := key xs []
  simpa [setL] using this
theorem lb_size (V : World) (o1 o2 o3 : Obj) : (V.alloc o1).heap.size = V.heap.size + 1 ∧ ((V.alloc o1).alloc o2).heap.size = V.heap.size + 1 + 1 := by
  constructor
  · simp
  · simp
theorem lb_old {V : World} {r : Nat} {x y : ByteArray} (h : LbAt V r x y) (o : Obj) : LbAt (V.alloc o) r x y := by
  have hr : r < V.heap.size := by
    by_cases hr : r < V.heap.size
    · exact hr
    · unfold LbAt at h
      rw [Array.getElem?_eq_none (by omega)] at h
      cases h
  unfold LbAt
  rw [Lib.alloc_old V o r hr]
  exact h
theorem lb1 (V : World) (x y : ByteArray) (o1 o2 : Obj) : LbAt (((V.alloc (.cells #[.string x, .string y] 42)).alloc o1).alloc o2).drew V.heap.size x y :=
  lb_old (lb_old (show LbAt (V.alloc (.cells #[.string x, .string y] 42)) V.heap.size x y from heap_alloc_new V _) o1) o2
theorem lb2 (V : World) (x y : ByteArray) (o1 o2 : Obj) : LbAt (((V.alloc o1).alloc (.cells #[.string x, .string y] 42)).alloc o2).drew (V.heap.size + 1) x y := by
  have h : LbAt ((V.alloc o1).alloc (.cells #[.string x, .string y] 42)) (V.alloc o1).heap.size x y := heap_alloc_new _ _
  rw [(lb_size V o1 o1 o1).1] at h
  exact lb_old h o2
theorem lb3 (V : World) (x y : ByteArray) (o1 o2 : Obj) : LbAt (((V.alloc o1).alloc o2).alloc (.cells #[.string x, .string y] 42)).drew (V.heap.size + 1 + 1) x y := by
  have h : LbAt (((V.alloc o1).alloc o2).alloc (.cells #[.string x, .string y] 42)) ((V.alloc o1).alloc o2).heap.size x y := heap_alloc_new _ _
  rw [(lb_size V o1 o2 o1).2] at h
  exact h
theorem lb_below (V : World) (o1 o2 o3 : Obj) : Below V.heap.size V (((V.alloc o1).alloc o2).alloc o3).drew :=
  ((((Below.refl V.heap.size V).alloc (Nat.le_refl _) o1).alloc (by simp) o2).alloc (by simp; omega) o3).drew
set_option maxHeartbeats 16000000 in
set_option maxRecDepth 20000 in
theorem list_any (w : World) (v : Value) (xs : List UInt8) (hv : URow w v xs) :
    Calls Try.prog 26 #[v] w fun e w' => ∃ a n c, e = .returned (.slice a n c) ∧ LRow w' (.slice a n c) (setL (xs.take 6)) ∧ Below w.heap.size w w' := by
  obtain ⟨i0, hi0, hz0, hz1, hz2⟩ := infoL2
  obtain ⟨a, cp, rfl, hcp, hmx, hat⟩ := id hv
  obtain ⟨m, hm⟩ : ∃ m, m = xs.length := ⟨_, rfl⟩
  rw [← hm] at hv hcp ⊢
  have HV := Lib.hid hv
  have HM := Lib.hid hm
  have hmx' : m ≤ 9223372036854775807 := Nat.le_trans hcp hmx
  clear hv hat hcp hmx hm
  go_enter Try.func26, Try.ntmps26
  go_wp2_with fail
  obtain ⟨B, hB⟩ : ∃ B, B = w.heap.size := ⟨_, rfl⟩
  have HB := Lib.hid hB
  clear hB
  go_loopw [3, 4, 5, 6, 7] (fun v x _ _ _ wr => ∃ k : Nat, k ≤ m ∧ k ≤ 6 ∧ x = .int .i64 k ∧ wr.ownsRow B 42 2 v (setL (xs.take k)).length (flat (setL (xs.take k))) ∧ Below B w wr) (fun _ x _ _ _ _ => 6 - (intOf x).toNat)
  case atStart => exact ⟨0, Nat.zero_le _, by omega, rfl, ⟨rfl, .inl ⟨rfl, rfl⟩⟩, by rw [HB.out]; exact Below.refl _ _⟩
  case round =>
    obtain ⟨k, hk, hk6, rfl, own, bb⟩ := hrel
    obtain ⟨acc, hacc⟩ : ∃ acc, acc = setL (xs.take k) := ⟨_, rfl⟩
    rw [← hacc] at own
    obtain ⟨q, hq⟩ : ∃ q, q = acc.length := ⟨_, rfl⟩
    rw [← hq] at own
    have hq6 : q ≤ 6 := by
      have h := setL_length (xs.take k)
      rw [List.length_take, ← hacc, ← hq] at h
      omega
    have HACC := Lib.hid hacc
    have HQ := Lib.hid hq
    have OWN := Lib.hid own
    have BB := Lib.hid bb
    have hbw : B ≤ wr.heap.size := by rw [HB.out]; exact bb.size
    obtain ⟨G, row, hG⟩ := Row.ofOwns own
    obtain ⟨av, cq, rfl, _⟩ := row.form
    have ROW := Lib.hid row
    clear own bb row hG hacc hq
    by_cases hlt : k < m ∧ k < 6
    · obtain ⟨hl1, hl2⟩ := hlt
      have q1 : (k : Int) < m := by omega
      have q2 : (k : Int) < 6 := by omega
      have HLT := Lib.hid (And.intro hl1 hl2)
      obtain ⟨x, hx⟩ : ∃ x, xs[k]? = some x := ⟨_, List.getElem?_eq_getElem (by rw [← HM.out]; exact hl1)⟩
      have HVr := HV.out.mono (w' := wr) (by rw [← HB.out]; exact BB.out)
      obtain ⟨a1, c1, e1, _, _, hat⟩ := HVr
      rw [← HM.out] at e1
      cases e1
      obtain ⟨ad, rfl, c0⟩ := hat k x hx
      have HX := Lib.hid (setL_take xs k x hx)
      obtain ⟨n, hn⟩ : ∃ n, n = x.toNat := ⟨_, rfl⟩
      have hn256 : n < 256 := by rw [hn]; exact x.toNat_lt
      rw [← hn] at c0
      obtain ⟨r1, hr1⟩ : ∃ r1, r1 = n % 5 := ⟨_, rfl⟩
      obtain ⟨d1, hd1⟩ : ∃ d1, d1 = n / 5 := ⟨_, rfl⟩
      obtain ⟨r3, hr3⟩ : ∃ r3, r3 = d1 % 3 := ⟨_, rfl⟩
      obtain ⟨ca, hca⟩ : ∃ ca, ca = 97 + r1 := ⟨_, rfl⟩
      obtain ⟨cb, hcb⟩ : ∃ cb, cb = 97 + r3 := ⟨_, rfl⟩
      have en1 : ((n : Nat) : Int).tmod 5 = (r1 : Int) := by rw [Int.tmod_eq_emod_of_nonneg (by omega)]; omega
      have en2 : ((n : Nat) : Int).tdiv 5 = (d1 : Int) := by rw [Int.tdiv_eq_ediv_of_nonneg (by omega)]; omega
      have en3 : ((d1 : Nat) : Int).tmod 3 = (r3 : Int) := by rw [Int.tmod_eq_emod_of_nonneg (by omega)]; omega
      have en4 : (97 : Int) + (r1 : Int) = (ca : Int) := by omega
      have en5 : (97 : Int) + (r3 : Int) = (cb : Int) := by omega
      have ew1 : IntKind.u8.wrap (r1 : Int) = (r1 : Int) := by simp [IntKind.wrap, IntKind.signed, IntKind.bits]; omega
      have ew2 : IntKind.u8.wrap (d1 : Int) = (d1 : Int) := by simp [IntKind.wrap, IntKind.signed, IntKind.bits]; omega
      have ew3 : IntKind.u8.wrap (r3 : Int) = (r3 : Int) := by simp [IntKind.wrap, IntKind.signed, IntKind.bits]; omega
      have ew4 : IntKind.u8.wrap (ca : Int) = (ca : Int) := by simp [IntKind.wrap, IntKind.signed, IntKind.bits]; omega
      have ew5 : IntKind.u8.wrap (cb : Int) = (cb : Int) := by simp [IntKind.wrap, IntKind.signed, IntKind.bits]; omega
      have HL := Lib.hid (show lab1 x = (oneB ca, oneB cb) by unfold lab1; rw [← hn, hca, hr1, hcb, hr3, hd1])
      obtain ⟨TA, hTA⟩ : ∃ TA, TA = oneB ca := ⟨_, rfl⟩
      obtain ⟨TB, hTB⟩ : ∃ TB, TB = oneB cb := ⟨_, rfl⟩
      have hcv1 : ∀ V q c, V.cell? ⟨q, 0, none⟩ = some (.int .u8 (ca : Int)) → (convert 23 9 (.slice (some ⟨q, 0, none⟩) 1 c)).run Try.prog V = .ok (.string TA) V := fun V q c h => by rw [hTA]; exact cv_one V q ca c h
      have hcv2 : ∀ V q c, V.cell? ⟨q, 0, none⟩ = some (.int .u8 (cb : Int)) → (convert 23 9 (.slice (some ⟨q, 0, none⟩) 1 c)).run Try.prog V = .ok (.string TB) V := fun V q c h => by rw [hTB]; exact cv_one V q cb c h
      have HLB := Lib.hid (show lab1 x = (TA, TB) by rw [HL.out, hTA, hTB])
      have c1 : ∀ o, (wr.alloc o).cell? (ad.add k) = some (.int .u8 n) := fun o => (((Below.refl _ _).alloc (Nat.le_refl _) o).cell (World.block_lt_of_cell? _ _ c0)).trans c0
      have c2 : ∀ o o', ((wr.alloc o).alloc o').cell? (ad.add k) = some (.int .u8 n) := fun o o' => (((Below.refl _ _).alloc (Nat.le_refl _) o').cell (World.block_lt_of_cell? _ _ (c1 o))).trans (c1 o)
      have fa : ∀ (V : World) (c : Int) (o o' : Obj), (((V.alloc (.cells #[.int .u8 c] 5)).alloc o).alloc o').cell? ⟨V.heap.size, 0, none⟩ = some (.int .u8 c) := fun V c o o' => by
        have h0 : (V.alloc (.cells #[.int .u8 c] 5)).cell? ⟨V.heap.size, 0, none⟩ = some (.int .u8 c) := by rw [new_cell]; rfl
        have h1 := (((Below.refl _ _).alloc (Nat.le_refl _) o).cell (World.block_lt_of_cell? _ _ h0)).trans h0
        exact (((Below.refl _ _).alloc (Nat.le_refl _) o').cell (World.block_lt_of_cell? _ _ h1)).trans h1
      have fb : ∀ (V : World) (c : Int) (o : Obj), ((V.alloc (.cells #[.int .u8 c] 5)).alloc o).cell? ⟨V.heap.size, 0, none⟩ = some (.int .u8 c) := fun V c o => by
        have h0 : (V.alloc (.cells #[.int .u8 c] 5)).cell? ⟨V.heap.size, 0, none⟩ = some (.int .u8 c) := by rw [new_cell]; rfl
        exact (((Below.refl _ _).alloc (Nat.le_refl _) o).cell (World.block_lt_of_cell? _ _ h0)).trans h0
      have f1 := fun c o o' => fa wr c o o'
      have f2 : ∀ (c : Int) (o o' : Obj), (((wr.alloc o).alloc (.cells #[.int .u8 c] 5)).alloc o').cell? ⟨wr.heap.size + 1, 0, none⟩ = some (.int .u8 c) := fun c o o' => by
        have := fb (wr.alloc o) c o'
        rwa [show (wr.alloc o).heap.size = wr.heap.size + 1 by simp] at this
      clear fa fb
      clear hat hx hl1 hl2 hn hr1 hd1 hr3 hca hcb hTA hTB HL
      go_wp2_with fail
      go_cut [5] (fun p w' => ∃ r, p = .pointer (some ⟨r, 0, none⟩) ∧ LbAt w' r TA TB ∧ wr.heap.size ≤ r ∧ Below wr.heap.size wr w')
      case first =>
        go_region
        all_goals
          go_wp2_with fail
          go_meet
          case rel =>
            first
              | exact ⟨_, rfl, lb1 _ _ _ _ _, Nat.le_refl _, lb_below _ _ _ _⟩
              | exact ⟨_, rfl, lb2 _ _ _ _ _, by omega, lb_below _ _ _ _⟩
              | exact ⟨_, rfl, lb3 _ _ _ _ _, by omega, lb_below _ _ _ _⟩
      case rest =>
        obtain ⟨r, rfl, lb, hr, b1⟩ := hcut
        obtain ⟨l0, l1, _, _⟩ := lb.cells
        have LB := Lib.hid lb
        have hBr : B ≤ r := Nat.le_trans hbw hr
        have OW1 := Lib.hid (owns_same (w' := wc) OWN.out fun g h1 h2 => b1.block g h2)
        have B1 := Lib.hid (BB.out.trans (b1.mono hbw))
        have hbw1 := Nat.le_trans hbw b1.size
        have LR1 := Lib.hid (show LRow wc (.slice av q cq) acc by
          obtain ⟨G', row, _⟩ := Row.ofOwns OW1.out
          have := LRow.ofRow (l := acc) (G := G') (v := .slice av q cq) (w := wc) (by rw [← HQ.out]; exact row)
          exact this)
        clear lb c0 c1 c2 f1 f2 b1 hcv1 hcv2
        go_wp2_with fail
        refine (Get_any wc _ acc TA LR1.out (by rw [← HQ.out]; omega)).mono ?_
        rintro e w2 ⟨rfl, b2⟩
        have OW2 := Lib.hid (owns_same (w' := w2) OW1.out fun g h1 h2 => b2.block g h2)
        have B2 := Lib.hid (B1.out.trans (b2.mono hbw1))
        have hbw2 := Nat.le_trans hbw1 b2.size
        replace l0 := (b2.cell (World.block_lt_of_cell? _ _ l0)).trans l0
        replace l1 := (b2.cell (World.block_lt_of_cell? _ _ l1)).trans l1
        clear b2 LR1
        cases hg : getL acc TA with
        | some v =>
          rw [getV_some hg]
          have E := Lib.hid (show setL (xs.take (k + 1)) = acc by rw [HX.out, HLB.out, ← HACC.out]; unfold addS; rw [hg]; rfl)
          clear hg
          go_wp2
          go_roundw
          case rel => exact ⟨k + 1, HLT.out.1, HLT.out.2, by go_num, by rw [E.out, ← HQ.out]; exact OW2.out, B2.out⟩
          case measure => simp [intOf]; have := HLT.out; omega
        | none =>
          rw [getV_none hg]
          have E := Lib.hid (show setL (xs.take (k + 1)) = acc ++ [(TA, TB)] by rw [HX.out, HLB.out, ← HACC.out]; unfold addS; rw [hg]; rfl)
          clear hg
          have OW5 := Lib.hid (OW2.out.alloc (.cells #[.string TA, .string TB] 42))
          have A2 : ∀ ad, (some ⟨w2.heap.size, 0, none⟩ : Option Addr) = some ad → ∀ j u, [Value.string TA, .string TB][j]? = some u → (w2.alloc (.cells #[.string TA, .string TB] 42)).cell? (ad.add j) = some u := fun ad e j y hy => by cases e; exact two_new _ _ _ _ j y hy
          have A3 : ∀ u ∈ [Value.string TA, .string TB], u.oneCell' = true := fun u hu => by simp at hu; rcases hu with rfl | rfl <;> rfl
          have A4 : q + 1 ≤ maxLen := by unfold maxLen; omega
          have A5 : (q + 1) * 32 ≤ 140737488355328 := by omega
          have A6 : B ≤ (w2.alloc (.cells #[.string TA, .string TB] 42)).heap.size := by simp; omega
          go_wp2_with (at_builtin; refine append_any _ rfl _ _ 28 rfl B 42 i0 (.agg #[.string ⟨#[]⟩, .string ⟨#[]⟩]) 2 32 Try.underlying28 hi0 hz0 hz1 hz2 rfl (by decide) _ q (flat acc) rfl OW5.out (some ⟨w2.heap.size, 0, none⟩) 1 1 [.string TA, .string TB] rfl (fun e => nomatch e) rfl A2 A3 A4 A5 A6 ?_)
          intro v5 w5 o5 b5
          have B5 := Lib.hid (show Below B w w5 from B2.out.trans (((Below.refl B w2).alloc hbw2 _).trans b5))
          have O5 := Lib.hid (show w5.ownsRow B 42 2 v5 (setL (xs.take (k + 1))).length (flat (setL (xs.take (k + 1)))) by
            rw [E.out, flat_append, List.length_append, ← HQ.out]; exact o5)
          clear A2 A3 A4 A5 A6 o5 b5 OW5 hbw1 hbw2
          go_wp2
          go_roundw
          case rel => exact ⟨k + 1, HLT.out.1, HLT.out.2, by go_num, O5.out, B5.out⟩
          case measure => simp [intOf]; have := HLT.out; omega
    · have E := Lib.hid (show acc = setL (xs.take 6) by
        rw [HACC.out]
        rcases Nat.lt_or_ge k 6 with h | h
        · rw [List.take_of_length_le (by rw [← HM.out]; omega), List.take_of_length_le (by rw [← HM.out]; omega)]
        · rw [show k = 6 by omega])
      have LR := Lib.hid (show LRow wr (.slice av q cq) (setL (xs.take 6)) by
        have := LRow.ofRow (l := acc) (G := G) (v := .slice av q cq) (w := wr) (by rw [← HQ.out]; exact ROW.out)
        rw [← E.out]
        exact this)
      by_cases him2 : k < m
      case' pos =>
        obtain rfl : k = 6 := by omega
        have q1 : ((6 : Nat) : Int) < m := by omega
      case' neg =>
        obtain rfl : k = m := by omega
      all_goals
        clear hlt him2
        go_wp2
        go_ret
        exact ⟨_, _, _, rfl, LR.out, by rw [← HB.out]; exact BB.out⟩
end Go.Proofs.Ytlmnniajindlgaa.HLab
