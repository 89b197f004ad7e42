/- The reference's cells: times, right, walked. Conditions: the numbers are of their kinds' ranges. -/
import Derived.Test.YtgafnilcmhjpcaaRCell3
import Derived.Test.YtgafnilcmhjpcaaCellRight
namespace Go.Proofs.Ytgafnilcmhjpcaa.HCell
set_option linter.unusedVariables false
open Go.RowKit Go.Proofs.Ytgafnilcmhjpcaa.HMem Go.Proofs.Ytgafnilcmhjpcaa.HHist Go.Proofs.Ytgafnilcmhjpcaa.HWide Go.Proofs.Ytgafnilcmhjpcaa.HBucket
open Go.Proofs.Ytgafnilcmhjpcaa.Print (I64)

theorem nrm_shift (v t : Int) : nrm (v + t * (B64 * B64)) = nrm v := by
  unfold nrm wrap64 B64
  refine Prod.ext ?_ ?_ <;> simp only <;> omega
theorem val_nrm_shift (a : Int) : ∃ t, val (nrm a).1 (nrm a).2 = a + t * (B64 * B64) := by
  refine ⟨-((a / 18446744073709551616 + 9223372036854775808) / 18446744073709551616), ?_⟩
  unfold val nrm wrap64 B64
  simp only
  omega
theorem nrm_sum (a b : Int) : nrm (val (nrm a).1 (nrm a).2 + val (nrm b).1 (nrm b).2) = nrm (a + b) := by
  obtain ⟨s, hs⟩ := val_nrm_shift a
  obtain ⟨t, ht⟩ := val_nrm_shift b
  rw [hs, ht, show a + s * (B64 * B64) + (b + t * (B64 * B64)) = (a + b) + (s + t) * (B64 * B64) by rw [Int.add_mul]; omega, nrm_shift]
theorem total_zero' {b : Nat} {l : IL} (h : HOk b l) : HHist.total l = 0 ↔ l = [] := by
  cases l with
  | nil => simp [HHist.total]
  | cons x r =>
    have := (h.item x (by simp)).1
    simp only [HHist.total]
    constructor
    · intro h; omega
    · intro h; cases h
/-- A sum of the reference's in memory. -/
def rtwo (w : World) (b : Nat) (x : Int × Int) : Prop := w.heap[b]? = some (.cells #[.int .i64 x.1, .int .u64 x.2] 71 (0, 0))
theorem rtwo.c {w : World} {b : Nat} {x : Int × Int} (h : rtwo w b x) : w.cell? ⟨b, 0, none⟩ = some (.int .i64 x.1) ∧ w.cell? ⟨b, 1, none⟩ = some (.int .u64 x.2) ∧ w.frozen? ⟨b, 0, none⟩ = false ∧ w.frozen? ⟨b, 1, none⟩ = false := by
  unfold rtwo at h
  simp [World.cell?, World.frozen?, h]
theorem rtwo.mono {w w' : World} {b : Nat} {x : Int × Int} (h : rtwo w b x) (hb : Below w.heap.size w w') : rtwo w' b x := by
  unfold rtwo
  rw [hb.block b (heap_lt h)]
  exact h
theorem rtwo.set {w : World} {b : Nat} {x : Int × Int} (h : rtwo w b x) (y : Int × Int) : rtwo ((w.setCell ⟨b, 0, none⟩ (.int .i64 y.1)).setCell ⟨b, 1, none⟩ (.int .u64 y.2)) b y := by
  have h1 := set_at h 0 (.int .i64 y.1)
  exact set_at h1 1 (.int .u64 y.2)
theorem rtwo.other {w : World} {b c : Nat} {x y : Int × Int} (h : rtwo w b x) (hn : b ≠ c) : rtwo ((w.setCell ⟨c, 0, none⟩ (.int .i64 y.1)).setCell ⟨c, 1, none⟩ (.int .u64 y.2)) b x := by
  unfold rtwo
  rw [Below.heap_setCell _ _ _ _ hn, Below.heap_setCell _ _ _ _ hn]
  exact h
theorem below_two {B : Nat} {w v : World} {c : Nat} (h : Below B w v) (hc : B ≤ c) (y : Int × Int) : Below B w ((v.setCell ⟨c, 0, none⟩ (.int .i64 y.1)).setCell ⟨c, 1, none⟩ (.int .u64 y.2)) :=
  Below.setCell (Below.setCell h (show B ≤ (Addr.block ⟨c, 0, none⟩) from hc) _) (show B ≤ (Addr.block ⟨c, 1, none⟩) from hc) _
theorem rAdd_q (a b : Int) (v : World) : Calls Try.prog 42 #[.agg #[.int .i64 (nrm a).1, .int .u64 (nrm a).2], .agg #[.int .i64 (nrm b).1, .int .u64 (nrm b).2]] v fun e w' =>
    e = .returned (.agg #[.int .i64 (nrm (a + b)).1, .int .u64 (nrm (a + b)).2]) ∧ Below v.heap.size v w' := by
  have h1 := nrm_rng a
  have h2 := nrm_rng b
  unfold Rng at h1 h2
  have := rSumAdd_any (nrm a).1 (nrm a).2 (nrm b).1 (nrm b).2 v h1.2.2.1 h1.2.2.2 h2.2.2.1 h2.2.2.2
  rw [nrm_sum] at this
  exact this
set_option maxHeartbeats 4000000 in
set_option maxRecDepth 20000 in
theorem rtimes_any (n : Int) (m : Nat) (w : World) (hn : I64 n) (hm : m < 18446744073709551616) :
    Calls Try.prog 74 #[.int .i64 n, .int .u64 m] w fun e w' => e = .returned (.agg #[.int .i64 (timesC n m).1, .int .u64 (timesC n m).2]) ∧ Below w.heap.size w w' := by
  obtain ⟨g, hg⟩ : ∃ g, g = w.heap.size := ⟨_, rfl⟩
  obtain ⟨W, hW⟩ : ∃ W, W = (w.alloc (.cells #[.int .i64 0, .int .u64 0] 71)).alloc (.cells #[.int .i64 0, .int .u64 0] 71) := ⟨_, rfl⟩
  have hWs : W.heap.size = g + 2 := by rw [hW, hg]; simp
  have b0 : Below g w W := by rw [hW, hg]; exact ((Below.refl w.heap.size w).alloc (Nat.le_refl _) _).alloc (by simp) _
  have z0 : nrm 0 = ((0 : Int), (0 : Int)) := by decide +kernel
  have r0 : rtwo W g (0, 0) := by
    have := heap_alloc_new w (.cells #[.int .i64 0, .int .u64 0] 71)
    unfold rtwo
    rw [hW, Lib.alloc_old _ _ g (by simp; omega), hg]
    exact this
  have r1 : rtwo W (g + 1) (0, 0) := by
    have := heap_alloc_new (w.alloc (.cells #[.int .i64 0, .int .u64 0] 71)) (.cells #[.int .i64 0, .int .u64 0] 71)
    have e : (w.alloc (.cells #[.int .i64 0, .int .u64 0] 71)).heap.size = g + 1 := by rw [hg]; simp
    unfold rtwo
    rw [hW, ← e]
    exact this
  have HWs := Lib.hid hWs
  have B0 := Lib.hid b0
  have R0 := Lib.hid r0
  have R1 := Lib.hid r1
  have HW := Lib.hid hW
  have HG := Lib.hid hg
  have HN := Lib.hid hn
  have Z0 := Lib.hid z0
  clear hWs b0 r0 r1 hW hg hn z0
  go_enter Try.func74, Try.ntmps74
  go_wp2_with fail
  rw [← HW.out]
  have e1 : w.heap.size = g := HG.out.symm
  simp only [e1]
  refine (rOf_any n W HN.out).mono ?_
  rintro e w1 ⟨rfl, b1⟩
  obtain ⟨V, hV⟩ : ∃ V, V = w1.alloc (.cells #[.int .i64 (nrm n).1, .int .u64 (nrm n).2] 71) := ⟨_, rfl⟩
  obtain ⟨x, hx⟩ : ∃ x, x = w1.heap.size := ⟨_, rfl⟩
  have RV0 := Lib.hid (show rtwo V g (0, 0) by rw [hV]; exact (R0.out.mono b1).mono ((Below.refl _ _).alloc (Nat.le_refl _) _))
  have RV1 := Lib.hid (show rtwo V (g + 1) (0, 0) by rw [hV]; exact (R1.out.mono b1).mono ((Below.refl _ _).alloc (Nat.le_refl _) _))
  have RV2 := Lib.hid (show rtwo V x (nrm n) by rw [hV, hx]; exact heap_alloc_new w1 _)
  have BV := Lib.hid (show Below g w V by
    rw [hV]
    exact (B0.out.trans (b1.mono (by rw [HWs.out]; omega))).alloc (by have := b1.size; rw [HWs.out] at this; omega) _)
  have hxg : g + 2 ≤ x := by rw [hx]; have := b1.size; rw [HWs.out] at this; exact this
  have HV := Lib.hid hV
  have HX := Lib.hid hx
  clear hV hx b1
  go_wp2_with fail
  rw [← HV.out, ← HX.out]
  have e2 : W.heap.size = g + 2 := HWs.out
  go_loopw [1] (fun y wr => ∃ (a : Nat) (o q : Int), y = .int .u64 a ∧ a < 18446744073709551616 ∧ o + q * a = n * m ∧ rtwo wr g (0, 0) ∧ rtwo wr (g + 1) (nrm o) ∧ rtwo wr x (nrm q) ∧ Below g w wr) (fun y _ => (intOf y).toNat)
  case atStart => exact ⟨m, 0, n, rfl, hm, by rw [Int.zero_add], RV0.out, by rw [Z0.out]; exact RV1.out, RV2.out, BV.out⟩
  case round =>
    obtain ⟨a, o, q, rfl, ha, hsum, t0, t1, t2, bb⟩ := hrel
    have T0 := Lib.hid t0
    have T1 := Lib.hid t1
    have T2 := Lib.hid t2
    have BB := Lib.hid bb
    have SUM := Lib.hid hsum
    clear t0 t1 t2 bb hsum
    rcases Nat.eq_zero_or_pos a with h0 | hpos
    · subst h0
      have hs : o = n * m := by have := SUM.out; simpa using this
      obtain ⟨x0, x1, _, _⟩ := T1.out.c
      obtain ⟨y0, y1, f0, f1⟩ := T0.out.c
      have RES := Lib.hid (show rtwo ((wr.setCell ⟨g, 0, none⟩ (.int .i64 (nrm o).1)).setCell ⟨g, 1, none⟩ (.int .u64 (nrm o).2)) g (nrm o) from T0.out.set (nrm o))
      have BW := Lib.hid (show Below g w ((wr.setCell ⟨g, 0, none⟩ (.int .i64 (nrm o).1)).setCell ⟨g, 1, none⟩ (.int .u64 (nrm o).2)) from below_two BB.out (Nat.le_refl _) _)
      have ES := Lib.hid (show timesC n m = nrm o by rw [hs]; rfl)
      obtain ⟨S, hS⟩ : ∃ S, S = nrm o := ⟨_, rfl⟩
      rw [← hS] at RES BW ES x0 x1
      clear hs hS
      go_wp2
      obtain ⟨r2, r3, _, _⟩ := RES.out.c
      refine bodyPost_ret (v := .agg #[.int .i64 S.1, .int .u64 S.2]) (by simp [results, Try.results74, go_sem, r2, r3]) rfl ⟨by rw [ES.out], by have := BW.out; first | exact this | (rw [HG.out]; exact this)⟩
    · have hp1 : (0 : Int) < (a : Int) := by omega
      have ea : ((a : Nat) : Int) % 2 = ((a % 2 : Nat) : Int) := by omega
      have ed : ((a : Nat) : Int) / 2 = ((a / 2 : Nat) : Int) := by omega
      have hab : (a : Int) = 2 * ((a / 2 : Nat) : Int) + ((a % 2 : Nat) : Int) := by omega
      obtain ⟨b, hb⟩ : ∃ b, b = a / 2 := ⟨_, rfl⟩
      rw [← hb] at ed hab
      have hba : b < a := by omega
      obtain ⟨x0, x1, _, _⟩ := T1.out.c
      obtain ⟨y0, y1, _, _⟩ := T2.out.c
      rcases Nat.mod_two_eq_zero_or_one a with hr | hr
      · rw [hr] at ea hab
        have SUM2 := Lib.hid (show o + (q + q) * (b : Int) = n * m by
          have h1 := SUM.out
          rw [hab, Int.natCast_zero, Int.add_zero, ← Int.mul_assoc, Int.mul_comm q 2] at h1
          rw [show q + q = 2 * q by omega]
          exact h1)
        have KK := Lib.hid (fun (v : World) => rAdd_q q q v)
        obtain ⟨S, hS⟩ : ∃ S, S = nrm q := ⟨_, rfl⟩
        obtain ⟨S2, hS2⟩ : ∃ S, S = nrm (q + q) := ⟨_, rfl⟩
        rw [← hS, ← hS2] at KK
        rw [← hS] at y0 y1
        have HS := Lib.hid hS2
        clear hr hb hab hS hS2
        go_wp2_with fail
        refine (KK.out wr).mono ?_
        rintro e w3 ⟨rfl, b3⟩
        have T0' := Lib.hid (T0.out.mono b3)
        have T1' := Lib.hid (T1.out.mono b3)
        have T2' := Lib.hid (T2.out.mono b3)
        have B3 := Lib.hid (BB.out.trans (b3.mono (by have := BB.out.size; have := heap_lt T0.out; omega)))
        clear b3 x0 x1 y0 y1 T0 T1 T2 BB
        obtain ⟨_, _, f0, f1⟩ := T2'.out.c
        obtain ⟨U, hU⟩ : ∃ U, U = (w3.setCell ⟨x, 0, none⟩ (.int .i64 S2.1)).setCell ⟨x, 1, none⟩ (.int .u64 S2.2) := ⟨_, rfl⟩
        have A0 := Lib.hid (show rtwo U g (0, 0) by rw [hU]; exact T0'.out.other (by omega))
        have A1 := Lib.hid (show rtwo U (g + 1) (nrm o) by rw [hU]; exact T1'.out.other (by omega))
        have A2 := Lib.hid (show rtwo U x S2 by rw [hU]; exact T2'.out.set S2)
        have BU := Lib.hid (show Below g w U by rw [hU]; exact below_two B3.out (by omega) _)
        obtain ⟨z0, z1, _, _⟩ := T2'.out.c
        go_wp2_with fail
        rw [← hU]
        clear hU
        go_roundw
        case rel => exact ⟨b, o, q + q, rfl, by omega, SUM2.out, A0.out, A1.out, by rw [← HS.out]; exact A2.out, BU.out⟩
        case measure => first | (simp [intOf]; done) | (simp [intOf]; omega)
      · rw [hr] at ea hab
        have SUM2 := Lib.hid (show (o + q) + (q + q) * (b : Int) = n * m by
          have h1 := SUM.out
          rw [hab, Int.mul_add, ← Int.mul_assoc, Int.mul_comm q 2] at h1
          rw [show q + q = 2 * q by omega]
          have e : q * ((1 : Nat) : Int) = q := by simp
          rw [e] at h1
          omega)
        have KK := Lib.hid (fun (v : World) => rAdd_q q q v)
        have KO := Lib.hid (fun (v : World) => rAdd_q o q v)
        obtain ⟨O, hO⟩ : ∃ S, S = nrm o := ⟨_, rfl⟩
        obtain ⟨S, hS⟩ : ∃ S, S = nrm q := ⟨_, rfl⟩
        obtain ⟨O2, hO2⟩ : ∃ S, S = nrm (o + q) := ⟨_, rfl⟩
        obtain ⟨S2, hS2⟩ : ∃ S, S = nrm (q + q) := ⟨_, rfl⟩
        rw [← hS, ← hS2] at KK
        rw [← hO, ← hS, ← hO2] at KO
        rw [← hO] at x0 x1
        rw [← hS] at y0 y1 T2
        have HS := Lib.hid hS2
        have HO := Lib.hid hO2
        clear hr hb hab hS hS2 hO hO2
        go_wp2_with fail
        refine (KO.out wr).mono ?_
        rintro e w3 ⟨rfl, b3⟩
        have T0' := Lib.hid (T0.out.mono b3)
        have T1' := Lib.hid (T1.out.mono b3)
        have T2' := Lib.hid (T2.out.mono b3)
        have B3 := Lib.hid (BB.out.trans (b3.mono (by have := BB.out.size; have := heap_lt T0.out; omega)))
        clear b3 x0 x1 y0 y1 T0 T1 T2 BB
        obtain ⟨v0, v1, f0, f1⟩ := T1'.out.c
        obtain ⟨U, hU⟩ : ∃ U, U = (w3.setCell ⟨g + 1, 0, none⟩ (.int .i64 O2.1)).setCell ⟨g + 1, 1, none⟩ (.int .u64 O2.2) := ⟨_, rfl⟩
        have A0 := Lib.hid (show rtwo U g (0, 0) by rw [hU]; exact T0'.out.other (by omega))
        have A1 := Lib.hid (show rtwo U (g + 1) O2 by rw [hU]; exact T1'.out.set O2)
        have A2 := Lib.hid (show rtwo U x S by rw [hU]; exact T2'.out.other (by omega))
        have BU := Lib.hid (show Below g w U by rw [hU]; exact below_two B3.out (by omega) _)
        go_upto_region 6 with fail
        rw [← hU]
        clear hU v0 v1 f0 f1
        obtain ⟨y0, y1, _, _⟩ := A2.out.c
        go_wp2_with fail
        refine (KK.out U).mono ?_
        rintro e w4 ⟨rfl, b4⟩
        have C0 := Lib.hid (A0.out.mono b4)
        have C1 := Lib.hid (A1.out.mono b4)
        have C2 := Lib.hid (A2.out.mono b4)
        have B4 := Lib.hid (BU.out.trans (b4.mono (by have := heap_lt A0.out; omega)))
        clear b4 y0 y1 T0' T1' T2' B3 A0 A1 A2 BU
        obtain ⟨v0, v1, f0, f1⟩ := C2.out.c
        obtain ⟨X, hX⟩ : ∃ U, U = (w4.setCell ⟨x, 0, none⟩ (.int .i64 S2.1)).setCell ⟨x, 1, none⟩ (.int .u64 S2.2) := ⟨_, rfl⟩
        have D0 := Lib.hid (show rtwo X g (0, 0) by rw [hX]; exact C0.out.other (by omega))
        have D1 := Lib.hid (show rtwo X (g + 1) O2 by rw [hX]; exact C1.out.other (by omega))
        have D2 := Lib.hid (show rtwo X x S2 by rw [hX]; exact C2.out.set S2)
        have BX := Lib.hid (show Below g w X by rw [hX]; exact below_two B4.out (by omega) _)
        go_wp2_with fail
        rw [← hX]
        clear hX
        go_roundw
        case rel => exact ⟨b, o + q, q + q, rfl, by omega, SUM2.out, D0.out, by rw [← HO.out]; exact D1.out, by rw [← HS.out]; exact D2.out, BX.out⟩
        case measure => first | (simp [intOf]; done) | (simp [intOf]; omega)
theorem rof_q (b : Nat) (n : Int) (hb : b ≤ 4) (hn : I64 n) (v : World) : Calls Try.prog 66 #[.int .i64 b, .int .i64 n] v fun e w' => e = .returned (.tuple #[.int .i64 (ofZ b n), .bool true]) ∧ Below v.heap.size v w' := by
  unfold Print.I64 at hn
  exact (rOf_yes b n v (by omega) (by omega) hn.1 hn.2).mono fun e w' ⟨h1, h2⟩ => ⟨by rw [h1, Int.toNat_natCast, ofZ_def], h2⟩
set_option maxHeartbeats 8000000 in
set_option maxRecDepth 20000 in
theorem rright_any {w : World} {p : Nat} {G : List Nat} {c : CM} (k : RCellAt w p G c) (ho : COk c) :
    Calls Try.prog 50 #[.pointer (some ⟨p, 0, none⟩)] w fun e w' => e = .returned (.bool (rightC c)) ∧ Below w.heap.size w w' := by
  obtain ⟨h, R, hG, hpR, kc, kh⟩ := k.ex
  obtain ⟨c0, c1, c2, c3, c4, c5⟩ := kc.cells
  have b0 := kh.cells.1
  obtain ⟨_, v, R2, hx1, hx2, b1, hrow⟩ := kh.cells
  obtain ⟨a, cp, rfl, hnc, hcm⟩ := hrow.form
  have HO := Lib.hid ho
  have hlen := ho.h.len
  have CK := Lib.hid (rCount_any kh (by have := ho.h.len; omega) (by have := ho.h.total; omega))
  obtain ⟨n, hn⟩ : ∃ n, n = c.l.length := ⟨_, rfl⟩
  have HN := Lib.hid hn
  rw [← hn] at hlen b1 hrow hnc
  have TZ := Lib.hid (show total c.l = 0 ↔ n = 0 by rw [hn, List.length_eq_zero_iff]; exact total_zero' ho.h)
  obtain ⟨T, hT⟩ : ∃ T, T = total c.l := ⟨_, rfl⟩
  rw [← hT] at CK TZ
  have HT := Lib.hid hT
  have HROW := Lib.hid hrow
  obtain ⟨lo, hlo⟩ : ∃ x, x = c.lo := ⟨_, rfl⟩
  obtain ⟨hi, hhi⟩ : ∃ x, x = c.hi := ⟨_, rfl⟩
  obtain ⟨s1, hs1⟩ : ∃ x, x = c.s.1 := ⟨_, rfl⟩
  obtain ⟨s2, hs2⟩ : ∃ x, x = c.s.2 := ⟨_, rfl⟩
  have HLO := Lib.hid hlo
  have HHI := Lib.hid hhi
  have HS1 := Lib.hid hs1
  have HS2 := Lib.hid hs2
  rw [← hlo] at c4
  rw [← hhi] at c5
  rw [← hs1] at c2
  rw [← hs2] at c3
  clear k kc kh hpR hG ho hx1 hx2 hn hT hrow hlo hhi hs1 hs2
  go_enter Try.func50, Try.ntmps50
  go_wp2_with fail
  refine CK.out.mono ?_
  rintro e w1 ⟨rfl, rfl⟩
  clear CK
  rcases Nat.eq_zero_or_pos n with h0 | h0
  · have hT0 : T = 0 := TZ.out.2 h0
    have z1 : ((T : Int) == 0) = true := by rw [beq_iff_eq]; omega
    have HN0 := Lib.hid (show rightC c = (decide (lo = 0) && (decide (hi = 0) && decide (s1 = 0 ∧ s2 = 0))) by unfold rightC; rw [if_pos (by rw [← HN.out]; exact h0), HLO.out, HHI.out, HS1.out, HS2.out])
    have h4 : (¬ lo = 0 ∧ rightC c = false) ∨ (lo = 0 ∧ ¬ hi = 0 ∧ rightC c = false) ∨ (lo = 0 ∧ hi = 0 ∧ ¬ s1 = 0 ∧ rightC c = false) ∨ (lo = 0 ∧ hi = 0 ∧ s1 = 0 ∧ ¬ s2 = 0 ∧ rightC c = false) ∨ (lo = 0 ∧ hi = 0 ∧ s1 = 0 ∧ s2 = 0 ∧ rightC c = true) := by
      rw [HN0.out]
      by_cases a1 : lo = 0 <;> by_cases a2 : hi = 0 <;> by_cases a3 : s1 = 0 <;> by_cases a4 : s2 = 0 <;> simp [a1, a2, a3, a4]
    clear hT0 h0
    rcases h4 with ⟨a1, a4⟩ | ⟨a1, a2, a4⟩ | ⟨a1, a2, a3, a4⟩ | ⟨a1, a2, a3, a5, a4⟩ | ⟨a1, a2, a3, a5, a4⟩
    case' inl => have e1 : (lo == 0) = false := by simpa using a1
    case' inr.inl =>
      have e1 : (lo == 0) = true := by simpa using a1
      have e2 : (hi == 0) = false := by simpa using a2
    case' inr.inr.inl =>
      have e1 : (lo == 0) = true := by simpa using a1
      have e2 : (hi == 0) = true := by simpa using a2
      have e3 : (s1 == 0) = false := by simpa using a3
    case' inr.inr.inr.inl =>
      have e1 : (lo == 0) = true := by simpa using a1
      have e2 : (hi == 0) = true := by simpa using a2
      have e3 : (s1 == 0) = true := by simpa using a3
      have e4 : (s2 == 0) = false := by simpa using a5
    case' inr.inr.inr.inr =>
      have e1 : (lo == 0) = true := by simpa using a1
      have e2 : (hi == 0) = true := by simpa using a2
      have e3 : (s1 == 0) = true := by simpa using a3
      have e4 : (s2 == 0) = true := by simpa using a5
    all_goals
      have A4 := Lib.hid a4
      try clear a1
      try clear a2
      try clear a3
      try clear a5
      clear a4
      go_wp2
      go_ret
      exact ⟨by rw [A4.out]; first | rfl | simp, Below.refl _ _⟩
  · have hT0 : ¬ T = 0 := fun e => by have := TZ.out.1 e; omega
    have z1 : ((T : Int) == 0) = false := by rw [beq_eq_false_iff_ne]; omega
    obtain ⟨m, hm⟩ : ∃ m, n = m + 1 := ⟨n - 1, by omega⟩
    obtain ⟨g, off, cap, ev, _, _, _, hat⟩ := HROW.out.there h0
    cases ev
    obtain ⟨fx, hfx⟩ : ∃ x, c.l[0]? = some x := ⟨_, List.getElem?_eq_getElem (by rw [← HN.out]; exact h0)⟩
    obtain ⟨lx, hlx⟩ : ∃ x, c.l[m]? = some x := ⟨_, List.getElem?_eq_getElem (by rw [← HN.out]; omega)⟩
    have g0 := (hat _ _ (flat_get c.l 0 fx hfx).1).1
    have g1 := (hat _ _ (flat_get c.l m lx hlx).1).1
    have q0 : w.cell? ⟨g, off, none⟩ = some (.int .i64 fx.1) := by simpa using g0
    have EF := Lib.hid (show firstL c.l = fx.1 by unfold firstL; rw [List.getD_eq_getElem?_getD, hfx]; rfl)
    have EL := Lib.hid (show lastL c.l = lx.1 by unfold lastL; rw [← HN.out, hm, Nat.add_sub_cancel, List.getD_eq_getElem?_getD, hlx]; rfl)
    have z2 : IntKind.i64.wrap ((n : Int) - 1) = (m : Int) := by rw [IntKind.wrap_i64]; omega
    have z3 : (m : Int) < n := by omega
    have z4 : (0 : Int) < n := by omega
    obtain ⟨q1, hq1⟩ : ∃ q, q = decide (lo ≤ hi) := ⟨_, rfl⟩
    obtain ⟨q2, hq2⟩ : ∃ q2, q2 = decide (ofZ c.b c.lo = firstL c.l) := ⟨_, rfl⟩
    obtain ⟨q3, hq3⟩ : ∃ q3, q3 = decide (ofZ c.b c.hi = lastL c.l) := ⟨_, rfl⟩
    obtain ⟨L1, hL1⟩ : ∃ L1, L1 = decide (val c.s.1 c.s.2 < val (timesC c.lo (total c.l)).1 (timesC c.lo (total c.l)).2) := ⟨_, rfl⟩
    obtain ⟨L2, hL2⟩ : ∃ L2, L2 = decide (val (timesC c.hi (total c.l)).1 (timesC c.hi (total c.l)).2 < val c.s.1 c.s.2) := ⟨_, rfl⟩
    have HRR := Lib.hid (show rightC c = (q1 && (q2 && (q3 && (!L1 && !L2)))) by
      unfold rightC
      rw [if_neg (by rw [← HN.out]; omega), hq2, hq3, hL1, hL2, hq1, HLO.out, HHI.out])
    rw [EF.out] at hq2
    rw [EL.out] at hq3
    obtain ⟨o1, ho1⟩ : ∃ o1, o1 = ofZ c.b c.lo := ⟨_, rfl⟩
    obtain ⟨o2, ho2⟩ : ∃ o2, o2 = ofZ c.b c.hi := ⟨_, rfl⟩
    obtain ⟨T1, hT1⟩ : ∃ T1, T1 = timesC c.lo (total c.l) := ⟨_, rfl⟩
    obtain ⟨T2, hT2⟩ : ∃ T2, T2 = timesC c.hi (total c.l) := ⟨_, rfl⟩
    have eq1 : decide (lo ≤ hi) = q1 := hq1.symm
    have eq2 : (o1 == fx.1) = q2 := by rw [hq2, ho1]; rfl
    have eq3 : (o2 == lx.1) = q3 := by rw [hq3, ho2]; rfl
    have KO1 := Lib.hid (show ∀ v, Calls Try.prog 66 #[.int .i64 c.b, .int .i64 lo] v fun e w' => e = .returned (.tuple #[.int .i64 o1, .bool true]) ∧ Below v.heap.size v w' from fun v => by rw [ho1, HLO.out]; exact rof_q c.b c.lo HO.out.h.bits HO.out.lo v)
    have KO2 := Lib.hid (show ∀ v, Calls Try.prog 66 #[.int .i64 c.b, .int .i64 hi] v fun e w' => e = .returned (.tuple #[.int .i64 o2, .bool true]) ∧ Below v.heap.size v w' from fun v => by rw [ho2, HHI.out]; exact rof_q c.b c.hi HO.out.h.bits HO.out.hi v)
    have KT1 := Lib.hid (show ∀ v, Calls Try.prog 74 #[.int .i64 lo, .int .u64 T] v fun e w' => e = .returned (.agg #[.int .i64 T1.1, .int .u64 T1.2]) ∧ Below v.heap.size v w' from fun v => by rw [hT1, HT.out, HLO.out]; exact rtimes_any c.lo (total c.l) v HO.out.lo (by have := HO.out.h.total; omega))
    have KT2 := Lib.hid (show ∀ v, Calls Try.prog 74 #[.int .i64 hi, .int .u64 T] v fun e w' => e = .returned (.agg #[.int .i64 T2.1, .int .u64 T2.2]) ∧ Below v.heap.size v w' from fun v => by rw [hT2, HT.out, HHI.out]; exact rtimes_any c.hi (total c.l) v HO.out.hi (by have := HO.out.h.total; omega))
    have KL1 := Lib.hid (show ∀ v, Calls Try.prog 73 #[.agg #[.int .i64 s1, .int .u64 s2], .agg #[.int .i64 T1.1, .int .u64 T1.2]] v fun e w' => e = .returned (.bool L1) ∧ Below v.heap.size v w' from fun v => by rw [hL1, hT1, HS1.out, HS2.out]; exact rLess_any _ _ _ _ v HO.out.rng (nrm_rng _))
    have KL2 := Lib.hid (show ∀ v, Calls Try.prog 73 #[.agg #[.int .i64 T2.1, .int .u64 T2.2], .agg #[.int .i64 s1, .int .u64 s2]] v fun e w' => e = .returned (.bool L2) ∧ Below v.heap.size v w' from fun v => by rw [hL2, hT2, HS1.out, HS2.out]; exact rLess_any _ _ _ _ v (nrm_rng _) HO.out.rng)
    clear hq1 hq2 hq3 hL1 hL2 ho1 ho2 hT1 hT2 hfx hlx hat hnc hcm hm g0 EF EL hT0
    go_wp2_with fail
    have K1 := Lib.hid (fun v (hv : Below w.heap.size w v) => KO1.out v)
    clear KO1
    refine wp_region_quiet (C := fun w' => Below w.heap.size w w') (by kernel_rfl) (by kernel_rfl) ((Below.refl _ _).drew) ?_
    try dsimp only [List.append]
    repeat (
      with_reducible refine wpQuiet_step (fun K hK => ?_)
      go_simp
      first
        | (with_reducible refine hK _ ?_; clear hK K)
        | (refine hK _ ?_; clear hK K)
        | (apply Exists.intro
           refine ⟨fun v hv => ?_, hK _ ?_⟩
           (first
             | with_reducible rfl
             | (with_reducible show Calls _ _ _ _ _
                first
                  | with_reducible refine Calls.mono (K1.out _ hv) ?_
                rintro e w' ⟨rfl, hb⟩
                exact ⟨rfl, hv.trans (hb.mono hv.size)⟩)
             | (have d0 := (hv.cell (World.block_lt_of_cell? _ _ c1)).trans c1
                have d1 := (hv.cell (World.block_lt_of_cell? _ _ c4)).trans c4
                have d2 := (hv.cell (World.block_lt_of_cell? _ _ b0)).trans b0
                go_simp
                with_reducible rfl))
           clear hK K))
    refine wpQuiet_nil ?_
    intro w3 b3
    have B3 := Lib.hid b3
    replace c1 := (b3.cell (World.block_lt_of_cell? _ _ c1)).trans c1
    replace c2 := (b3.cell (World.block_lt_of_cell? _ _ c2)).trans c2
    replace c3 := (b3.cell (World.block_lt_of_cell? _ _ c3)).trans c3
    replace c4 := (b3.cell (World.block_lt_of_cell? _ _ c4)).trans c4
    replace c5 := (b3.cell (World.block_lt_of_cell? _ _ c5)).trans c5
    replace b0 := (b3.cell (World.block_lt_of_cell? _ _ b0)).trans b0
    replace b1 := (b3.cell (World.block_lt_of_cell? _ _ b1)).trans b1
    replace q0 := (b3.cell (World.block_lt_of_cell? _ _ q0)).trans q0
    replace g1 := (b3.cell (World.block_lt_of_cell? _ _ g1)).trans g1
    clear b3 K1
    have K1 := Lib.hid (fun v (hv : Below w3.heap.size w3 v) => KO2.out v)
    clear KO2
    go_wp2_with fail
    refine wp_region_quiet (C := fun w' => Below w3.heap.size w3 w') (by kernel_rfl) (by kernel_rfl) ((Below.refl _ _).drew) ?_
    try dsimp only [List.append]
    repeat (
      with_reducible refine wpQuiet_step (fun K hK => ?_)
      go_simp
      first
        | (with_reducible refine hK _ ?_; clear hK K)
        | (refine hK _ ?_; clear hK K)
        | (apply Exists.intro
           refine ⟨fun v hv => ?_, hK _ ?_⟩
           (first
             | with_reducible rfl
             | (with_reducible show Calls _ _ _ _ _
                first
                  | with_reducible refine Calls.mono (K1.out _ hv) ?_
                rintro e w' ⟨rfl, hb⟩
                exact ⟨rfl, hv.trans (hb.mono hv.size)⟩)
             | (have d0 := (hv.cell (World.block_lt_of_cell? _ _ c1)).trans c1
                have d1 := (hv.cell (World.block_lt_of_cell? _ _ c5)).trans c5
                have d2 := (hv.cell (World.block_lt_of_cell? _ _ b0)).trans b0
                go_simp
                with_reducible rfl))
           clear hK K))
    refine wpQuiet_nil ?_
    intro w4 b4
    have B4 := Lib.hid (B3.out.trans (b4.mono B3.out.size))
    replace c1 := (b4.cell (World.block_lt_of_cell? _ _ c1)).trans c1
    replace c2 := (b4.cell (World.block_lt_of_cell? _ _ c2)).trans c2
    replace c3 := (b4.cell (World.block_lt_of_cell? _ _ c3)).trans c3
    replace c4 := (b4.cell (World.block_lt_of_cell? _ _ c4)).trans c4
    replace c5 := (b4.cell (World.block_lt_of_cell? _ _ c5)).trans c5
    replace b0 := (b4.cell (World.block_lt_of_cell? _ _ b0)).trans b0
    replace b1 := (b4.cell (World.block_lt_of_cell? _ _ b1)).trans b1
    replace q0 := (b4.cell (World.block_lt_of_cell? _ _ q0)).trans q0
    replace g1 := (b4.cell (World.block_lt_of_cell? _ _ g1)).trans g1
    clear b4 K1
    have K1 := Lib.hid (fun v (hv : Below w4.heap.size w4 v) => KT1.out v)
    have K2 := Lib.hid (fun v (hv : Below w4.heap.size w4 v) => KL1.out v)
    clear KT1 KL1
    go_wp2_with fail
    refine wp_region_quiet (C := fun w' => Below w4.heap.size w4 w') (by kernel_rfl) (by kernel_rfl) ((Below.refl _ _).drew) ?_
    try dsimp only [List.append]
    repeat (
      with_reducible refine wpQuiet_step (fun K hK => ?_)
      go_simp
      first
        | (with_reducible refine hK _ ?_; clear hK K)
        | (refine hK _ ?_; clear hK K)
        | (apply Exists.intro
           refine ⟨fun v hv => ?_, hK _ ?_⟩
           (first
             | with_reducible rfl
             | (with_reducible show Calls _ _ _ _ _
                first
                  | with_reducible refine Calls.mono (K1.out _ hv) ?_
                  | with_reducible refine Calls.mono (K2.out _ hv) ?_
                rintro e w' ⟨rfl, hb⟩
                exact ⟨rfl, hv.trans (hb.mono hv.size)⟩)
             | (have d0 := (hv.cell (World.block_lt_of_cell? _ _ c2)).trans c2
                have d1 := (hv.cell (World.block_lt_of_cell? _ _ c3)).trans c3
                have d2 := (hv.cell (World.block_lt_of_cell? _ _ c4)).trans c4
                go_simp
                with_reducible rfl))
           clear hK K))
    refine wpQuiet_nil ?_
    intro w5 b5
    have B5 := Lib.hid (B4.out.trans (b5.mono B4.out.size))
    replace c1 := (b5.cell (World.block_lt_of_cell? _ _ c1)).trans c1
    replace c2 := (b5.cell (World.block_lt_of_cell? _ _ c2)).trans c2
    replace c3 := (b5.cell (World.block_lt_of_cell? _ _ c3)).trans c3
    replace c4 := (b5.cell (World.block_lt_of_cell? _ _ c4)).trans c4
    replace c5 := (b5.cell (World.block_lt_of_cell? _ _ c5)).trans c5
    replace b0 := (b5.cell (World.block_lt_of_cell? _ _ b0)).trans b0
    replace b1 := (b5.cell (World.block_lt_of_cell? _ _ b1)).trans b1
    replace q0 := (b5.cell (World.block_lt_of_cell? _ _ q0)).trans q0
    replace g1 := (b5.cell (World.block_lt_of_cell? _ _ g1)).trans g1
    clear b5 K1 K2
    have K1 := Lib.hid (fun v (hv : Below w5.heap.size w5 v) => KT2.out v)
    have K2 := Lib.hid (fun v (hv : Below w5.heap.size w5 v) => KL2.out v)
    clear KT2 KL2
    go_wp2_with fail
    refine wp_region_quiet (C := fun w' => Below w5.heap.size w5 w') (by kernel_rfl) (by kernel_rfl) ((Below.refl _ _).drew) ?_
    try dsimp only [List.append]
    repeat (
      with_reducible refine wpQuiet_step (fun K hK => ?_)
      go_simp
      first
        | (with_reducible refine hK _ ?_; clear hK K)
        | (refine hK _ ?_; clear hK K)
        | (apply Exists.intro
           refine ⟨fun v hv => ?_, hK _ ?_⟩
           (first
             | with_reducible rfl
             | (with_reducible show Calls _ _ _ _ _
                first
                  | with_reducible refine Calls.mono (K1.out _ hv) ?_
                  | with_reducible refine Calls.mono (K2.out _ hv) ?_
                rintro e w' ⟨rfl, hb⟩
                exact ⟨rfl, hv.trans (hb.mono hv.size)⟩)
             | (have d0 := (hv.cell (World.block_lt_of_cell? _ _ c2)).trans c2
                have d1 := (hv.cell (World.block_lt_of_cell? _ _ c3)).trans c3
                have d2 := (hv.cell (World.block_lt_of_cell? _ _ c5)).trans c5
                go_simp
                with_reducible rfl))
           clear hK K))
    refine wpQuiet_nil ?_
    intro w6 b6
    have B6 := Lib.hid (B5.out.trans (b6.mono B5.out.size))
    replace c1 := (b6.cell (World.block_lt_of_cell? _ _ c1)).trans c1
    replace c2 := (b6.cell (World.block_lt_of_cell? _ _ c2)).trans c2
    replace c3 := (b6.cell (World.block_lt_of_cell? _ _ c3)).trans c3
    replace c4 := (b6.cell (World.block_lt_of_cell? _ _ c4)).trans c4
    replace c5 := (b6.cell (World.block_lt_of_cell? _ _ c5)).trans c5
    replace b0 := (b6.cell (World.block_lt_of_cell? _ _ b0)).trans b0
    replace b1 := (b6.cell (World.block_lt_of_cell? _ _ b1)).trans b1
    replace q0 := (b6.cell (World.block_lt_of_cell? _ _ q0)).trans q0
    replace g1 := (b6.cell (World.block_lt_of_cell? _ _ g1)).trans g1
    clear b6 K1 K2 z1
    go_wp2_with fail
    have h5 : (q1 = false) ∨ (q1 = true ∧ q2 = false) ∨ (q1 = true ∧ q2 = true ∧ q3 = false) ∨ (q1 = true ∧ q2 = true ∧ q3 = true ∧ L1 = true) ∨ (q1 = true ∧ q2 = true ∧ q3 = true ∧ L1 = false ∧ L2 = true) ∨ (q1 = true ∧ q2 = true ∧ q3 = true ∧ L1 = false ∧ L2 = false) := by
      cases q1 <;> cases q2 <;> cases q3 <;> cases L1 <;> cases L2 <;> simp
    rcases h5 with rfl | ⟨rfl, rfl⟩ | ⟨rfl, rfl, rfl⟩ | ⟨rfl, rfl, rfl, rfl⟩ | ⟨rfl, rfl, rfl, rfl, rfl⟩ | ⟨rfl, rfl, rfl, rfl, rfl⟩
    all_goals
      refine wp_region_quiet (C := fun w' => Below w6.heap.size w6 w') (by kernel_rfl) (by kernel_rfl) ((Below.refl _ _).drew) ?_
      try dsimp only [List.append]
      repeat (
        with_reducible refine wpQuiet_step (fun K hK => ?_)
        go_simp
        first
          | (with_reducible refine hK _ ?_; clear hK K)
          | (refine hK _ ?_; clear hK K)
          | (apply Exists.intro
             refine ⟨fun v hv => ?_, hK _ ?_⟩
             (first
               | with_reducible rfl
               | (have d0 := (hv.cell (World.block_lt_of_cell? _ _ c1)).trans c1
                  have d1 := (hv.cell (World.block_lt_of_cell? _ _ c4)).trans c4
                  have d2 := (hv.cell (World.block_lt_of_cell? _ _ c5)).trans c5
                  have d3 := (hv.cell (World.block_lt_of_cell? _ _ b1)).trans b1
                  have d4 := (hv.cell (World.block_lt_of_cell? _ _ q0)).trans q0
                  have d5 := (hv.cell (World.block_lt_of_cell? _ _ g1)).trans g1
                  go_simp
                  with_reducible rfl))
             clear hK K))
      refine wpQuiet_nil ?_
      intro w7 b7
      have B7 := Lib.hid (B6.out.trans (b7.mono B6.out.size))
      clear b7 c1 c2 c3 c4 c5 b0 b1 q0 g1
      go_wp2
      go_ret
      exact ⟨by rw [HRR.out]; first | rfl | simp, B7.out⟩
end Go.Proofs.Ytgafnilcmhjpcaa.HCell
