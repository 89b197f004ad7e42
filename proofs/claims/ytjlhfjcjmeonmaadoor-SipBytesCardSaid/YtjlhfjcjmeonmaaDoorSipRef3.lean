/- The document's own Sum answers sumN. -/
import Derived.Test.YtjlhfjcjmeonmaaDoorSipRef2
namespace Go.Proofs.YtjlhfjcjmeonmaaDoor.HSip
open Go.RowKit Go.Proofs.YtjlhfjcjmeonmaaDoor.Print Go.Proofs.YtjlhfjcjmeonmaaDoorW.PrintWords Go.Proofs.YtjlhfjcjmeonmaaDoorW.PrintLast Go.Proofs.YtjlhfjcjmeonmaaDoorW.PrintMore

theorem L4_0 (v : S4) : rd (L4 v) 0 = (v.1 : Int) := rfl
theorem L4_1 (v : S4) : rd (L4 v) 1 = (v.2.1 : Int) := rfl
theorem L4_2 (v : S4) : rd (L4 v) 2 = (v.2.2.1 : Int) := rfl
theorem L4_3 (v : S4) : rd (L4 v) 3 = (v.2.2.2 : Int) := rfl
theorem L4_s0 (v : S4) (x : Nat) : (L4 v).set (0 : Int).toNat (x : Int) = L4 (x, v.2.1, v.2.2.1, v.2.2.2) := rfl
theorem L4_s2 (v : S4) (x : Nat) : (L4 v).set (2 : Int).toNat (x : Int) = L4 (v.1, v.2.1, x, v.2.2.2) := rfl
theorem L4_s3 (v : S4) (x : Nat) : (L4 v).set (3 : Int).toNat (x : Int) = L4 (v.1, v.2.1, v.2.2.1, x) := rfl
theorem L4_len (v : S4) : ((L4 v).length : Int) = 4 := rfl
theorem rnds_lt : ∀ (n : Nat) (v : S4), Lt4 v → Lt4 (rnds n v)
  | 0, v, h => h
  | n + 1, v, h => by
    first
      | exact rnds_lt n (rnd v) (rnd_lt v h)
      | exact rnd_lt _ (rnds_lt n v h)
theorem rnds_one (x : S4) : rnds 1 x = rnd x := rfl
theorem rnds_two (x : S4) : rnds 2 x = rnd (rnd x) := rfl
theorem rnds_four (x : S4) : rnds 4 x = rnd (rnd (rnd (rnd x))) := rfl
theorem mixN_eq (v : S4) (m : Nat) (u : S4) (hu : u = rnds 2 (v.1, v.2.1, v.2.2.1, v.2.2.2 ^^^ m)) : mixN v m = (u.1 ^^^ m, u.2.1, u.2.2.1, u.2.2.2) := by
  rw [hu]; unfold mixN; rfl
theorem lt4_mk (a b c d : Nat) (ha : a < M64) (hb : b < M64) (hc : c < M64) (hd : d < M64) : Lt4 (a, b, c, d) := ⟨ha, hb, hc, hd⟩
theorem mixN_lt (v : S4) (m : Nat) (h : Lt4 v) (hm : m < M64) : Lt4 (mixN v m) := by
  have hx := lt4_mk v.1 v.2.1 v.2.2.1 (v.2.2.2 ^^^ m) h.1 h.2.1 h.2.2.1 (xor_lt _ _ h.2.2.2 hm)
  have := rnds_lt 2 _ hx
  obtain ⟨u, hu⟩ : ∃ u, u = rnds 2 (v.1, v.2.1, v.2.2.1, v.2.2.2 ^^^ m) := ⟨_, rfl⟩
  rw [mixN_eq v m u hu]
  rw [← hu] at this
  exact lt4_mk _ _ _ _ (xor_lt _ _ this.1 hm) this.2.1 this.2.2.1 this.2.2.2
theorem wordF_lt8 (l : List UInt8) (h : l.length ≤ 8) : wordF l < M64 :=
  Nat.lt_of_lt_of_le (wordF_lt l) (Nat.le_trans (Nat.pow_le_pow_right (by decide) h) (by decide))

/-- A step of the loop, of lists that nobody opens. -/
theorem step_gen (k : Nat) (s : ByteArray) (V U1 U2 U3 U4 : List Int) (m y1 y2 x : Int) (h1 : 8 ≤ (s.size : Int)) (hs : (s.size : Int) ≤ 9223372036854775807) (hw : scantlingref01_word.f k (s.extract 0 8) = some m) (hV : (V.length : Int) = 4) (hU : (U3.length : Int) = 4)
    (x1 : Go.bits .xor .u64 (rd V 3) m = y1) (s1 : V.set (3 : Int).toNat y1 = U1) (r1 : scantlingref01_round.f U1 = some U2) (r2 : scantlingref01_round.f U2 = some U3) (x2 : Go.bits .xor .u64 (rd U3 0) m = y2) (s2 : U3.set (0 : Int).toNat y2 = U4) :
    scantlingref01_Sum.l0 (k + 1) s V x = scantlingref01_Sum.l0 k (s.extract 8 s.size) U4 x := by
  rw [scantlingref01_Sum.l0]
  rw [if_pos (by omega), if_pos (by decide), if_pos h1, hw, Option.bind_some, hV, if_pos (by decide), x1, s1, r1, Option.bind_some, r2, Option.bind_some, hU, if_pos (by decide), x2, s2]

theorem sum_step (k : Nat) (s : ByteArray) (v : S4) (x : Int) (hs : 8 ≤ s.size) (hz : s.size ≤ 140737488355328) (hk : 9 ≤ k) (hv : Lt4 v) :
    scantlingref01_Sum.l0 (k + 1) s (L4 v) x = scantlingref01_Sum.l0 k (s.extract 8 s.size) (L4 (mixN v (wordF (s.data.toList.take 8)))) x := by
  have e8 : (s.extract 0 8).size = 8 := by rw [ByteArray.size_extract]; omega
  have hw := word_f (s.extract 0 8) (by omega) k hk
  have et : (s.extract 0 8).data.toList = s.data.toList.take 8 := by simp [ByteArray.data_extract]
  rw [et] at hw
  have hlen : s.data.toList.length = s.size := data_length s
  have hm : wordF (s.data.toList.take 8) < M64 := wordF_lt8 _ (by simp; omega)
  obtain ⟨m, hM⟩ : ∃ m, m = wordF (s.data.toList.take 8) := ⟨_, rfl⟩
  rw [← hM] at hw hm ⊢
  have hx : Lt4 (v.1, v.2.1, v.2.2.1, v.2.2.2 ^^^ m) := ⟨hv.1, hv.2.1, hv.2.2.1, xor_lt _ _ hv.2.2.2 hm⟩
  have hy := rnd_lt _ (rnd_lt _ hx)
  have hmix := mixN_eq v m _ (rnds_two (v.1, v.2.1, v.2.2.1, v.2.2.2 ^^^ m)).symm
  have r1 := round_f _ hx
  have r2 := round_f _ (rnd_lt _ hx)
  obtain ⟨u2, hu2⟩ : ∃ u, u = rnd (v.1, v.2.1, v.2.2.1, v.2.2.2 ^^^ m) := ⟨_, rfl⟩
  rw [← hu2] at hmix hy r1 r2
  obtain ⟨u, hu⟩ : ∃ u, u = rnd u2 := ⟨_, rfl⟩
  rw [← hu] at hmix hy r2
  rw [hmix]
  exact step_gen k s (L4 v) (L4 (v.1, v.2.1, v.2.2.1, v.2.2.2 ^^^ m)) (L4 u2) (L4 u) (L4 (u.1 ^^^ m, u.2.1, u.2.2.1, u.2.2.2)) m _ _ x (by omega) (by omega) hw (L4_len v) (L4_len _)
    (xor_nat _ _ hv.2.2.2 hm) (L4_s3 v _) r1 r2 (xor_nat _ _ hy.1 hm) (L4_s0 _ _)

theorem end_gen (k : Nat) (s : ByteArray) (V U1 U2 U3 U4 U5 Z1 Z2 Z3 Z4 : List Int) (m0 m y1 y2 y3 x w q1 q2 q3 : Int) (h1 : ¬ 8 ≤ (s.size : Int)) (hw : scantlingref01_word.f k s = some m0) (ew : IntKind.u64.wrap (x * 72057594037927936) = w) (eo : Go.bits .or .u64 m0 w = m)
    (hV : (V.length : Int) = 4) (hU : (U3.length : Int) = 4) (hZ4 : (Z4.length : Int) = 4)
    (x1 : Go.bits .xor .u64 (rd V 3) m = y1) (s1 : V.set (3 : Int).toNat y1 = U1) (r1 : scantlingref01_round.f U1 = some U2) (r2 : scantlingref01_round.f U2 = some U3) (x2 : Go.bits .xor .u64 (rd U3 0) m = y2) (s2 : U3.set (0 : Int).toNat y2 = U4)
    (x3 : Go.bits .xor .u64 (rd U4 2) 255 = y3) (s3 : U4.set (2 : Int).toNat y3 = U5) (r3 : scantlingref01_round.f U5 = some Z1) (r4 : scantlingref01_round.f Z1 = some Z2) (r5 : scantlingref01_round.f Z2 = some Z3) (r6 : scantlingref01_round.f Z3 = some Z4)
    (f1 : Go.bits .xor .u64 (rd Z4 0) (rd Z4 1) = q1) (f2 : Go.bits .xor .u64 q1 (rd Z4 2) = q2) (f3 : Go.bits .xor .u64 q2 (rd Z4 3) = q3) :
    scantlingref01_Sum.l0 (k + 1) s V x = some q3 := by
  rw [scantlingref01_Sum.l0]
  rw [if_neg h1, hw, Option.bind_some, hV, if_pos (by decide), ew, eo, x1, s1, r1, Option.bind_some, r2, Option.bind_some, hU, if_pos (by decide), x2, s2, Option.bind_some, if_pos (by decide), x3, s3, r3, Option.bind_some, r4, Option.bind_some, r5, Option.bind_some, r6, Option.bind_some, hZ4, if_pos (by decide), if_pos (by decide), if_pos (by decide), if_pos (by decide), f1, f2, f3]

theorem sum_end (k : Nat) (s : ByteArray) (v : S4) (n : Nat) (hs : s.size < 8) (hk : 9 ≤ k) (hv : Lt4 v) :
    scantlingref01_Sum.l0 (k + 1) s (L4 v) (n : Int) = some ((endN (rnds 4 ((mixN v (wordF s.data.toList ||| (n * 2 ^ 56 % M64))).1, (mixN v (wordF s.data.toList ||| (n * 2 ^ 56 % M64))).2.1, (mixN v (wordF s.data.toList ||| (n * 2 ^ 56 % M64))).2.2.1 ^^^ 255, (mixN v (wordF s.data.toList ||| (n * 2 ^ 56 % M64))).2.2.2)) : Nat) : Int) := by
  have hw := word_f s (by omega) k hk
  have hlen : s.data.toList.length = s.size := data_length s
  have hm0 : wordF s.data.toList < M64 := wordF_lt8 _ (by omega)
  have ew : IntKind.u64.wrap ((n : Int) * 72057594037927936) = ((n * 2 ^ 56 % M64 : Nat) : Int) := by
    show IntKind.u64.wrap ((n : Int) * ((2 ^ 56 : Nat) : Int)) = _
    rw [← Int.natCast_mul, wrap_nat]
  have hm1 : n * 2 ^ 56 % M64 < M64 := Nat.mod_lt _ (by decide)
  have eo := or_nat _ _ hm0 hm1
  have hm : wordF s.data.toList ||| (n * 2 ^ 56 % M64) < M64 := or_lt _ _ hm0 hm1
  obtain ⟨m, hM⟩ : ∃ m, m = wordF s.data.toList ||| (n * 2 ^ 56 % M64) := ⟨_, rfl⟩
  rw [← hM] at eo hm ⊢
  have hx : Lt4 (v.1, v.2.1, v.2.2.1, v.2.2.2 ^^^ m) := ⟨hv.1, hv.2.1, hv.2.2.1, xor_lt _ _ hv.2.2.2 hm⟩
  have hy := rnd_lt _ (rnd_lt _ hx)
  have r1 := round_f _ hx
  have r2 := round_f _ (rnd_lt _ hx)
  obtain ⟨u2, hu2⟩ : ∃ u, u = rnd (v.1, v.2.1, v.2.2.1, v.2.2.2 ^^^ m) := ⟨_, rfl⟩
  have hmix : mixN v m = ((rnd u2).1 ^^^ m, (rnd u2).2.1, (rnd u2).2.2.1, (rnd u2).2.2.2) := mixN_eq v m (rnd u2) (by rw [rnds_two, hu2])
  rw [← hu2] at hy r1 r2
  clear hu2
  obtain ⟨u, hu⟩ : ∃ u, u = rnd u2 := ⟨_, rfl⟩
  rw [← hu] at hy r2 hmix
  clear hu
  have hz : Lt4 (u.1 ^^^ m, u.2.1, u.2.2.1 ^^^ 255, u.2.2.2) := ⟨xor_lt _ _ hy.1 hm, hy.2.1, xor_lt _ _ hy.2.2.1 (by decide), hy.2.2.2⟩
  have x255 : Go.bits .xor .u64 (u.2.2.1 : Int) 255 = ((u.2.2.1 ^^^ 255 : Nat) : Int) := xor_nat u.2.2.1 255 hy.2.2.1 (by decide)
  rw [hmix]
  simp only
  obtain ⟨c, hc⟩ : ∃ c, c = u.2.2.1 ^^^ 255 := ⟨_, rfl⟩
  rw [← hc] at hz x255 ⊢
  obtain ⟨d, hd⟩ : ∃ d, d = u.1 ^^^ m := ⟨_, rfl⟩
  have xd := xor_nat u.1 m hy.1 hm
  rw [← hd] at hz xd ⊢
  obtain ⟨z, hZ⟩ : ∃ z : S4, z = (d, u.2.1, c, u.2.2.2) := ⟨_, rfl⟩
  have s3 : (L4 (d, u.2.1, u.2.2.1, u.2.2.2)).set (2 : Int).toNat (c : Int) = L4 z := by rw [hZ]; rfl
  rw [← hZ] at hz ⊢
  have z1 := rnd_lt _ hz
  have z2 := rnd_lt _ z1
  have z3 := rnd_lt _ z2
  have z4 := rnd_lt _ z3
  have t1 := round_f _ hz
  have t2 := round_f _ z1
  have t3 := round_f _ z2
  have t4 := round_f _ z3
  have er := rnds_four z
  rw [er]
  obtain ⟨y, hY⟩ : ∃ y, y = rnd (rnd (rnd (rnd z))) := ⟨_, rfl⟩
  rw [← hY] at z4 t4 ⊢
  have f1 := xor_nat _ _ z4.1 z4.2.1
  have f2 := xor_nat _ _ (xor_lt _ _ z4.1 z4.2.1) z4.2.2.1
  have f3 := xor_nat _ _ (xor_lt _ _ (xor_lt _ _ z4.1 z4.2.1) z4.2.2.1) z4.2.2.2
  exact end_gen k s (L4 v) (L4 (v.1, v.2.1, v.2.2.1, v.2.2.2 ^^^ m)) (L4 u2) (L4 u) (L4 (d, u.2.1, u.2.2.1, u.2.2.2)) (L4 z) (L4 (rnd z)) (L4 (rnd (rnd z))) (L4 (rnd (rnd (rnd z)))) (L4 y)
    _ m _ _ _ (n : Int) _ _ _ _ (by omega) hw ew eo (L4_len _) (L4_len _) (L4_len _) (xor_nat _ _ hv.2.2.2 hm) (L4_s3 v _) r1 r2 xd (L4_s0 u d) x255 s3 t1 t2 t3 t4 f1 f2 f3

theorem ext_data (s : ByteArray) (a : Nat) : (s.extract a s.size).data.toList = s.data.toList.drop a := by
  have hlen : s.data.toList.length = s.size := data_length s
  simp only [ByteArray.data_extract, Array.toList_extract, List.extract_eq_take_drop]
  rw [List.take_of_length_le (by simp [hlen])]
theorem ext_size (s : ByteArray) (a : Nat) (h : a ≤ s.size) : (s.extract a s.size).size = s.size - a := by rw [ByteArray.size_extract]; omega
theorem absTo_lt (v : S4) (l : List UInt8) (hv : Lt4 v) : ∀ q, 8 * q ≤ l.length → Lt4 (absTo v l (8 * q)).1
  | 0, _ => hv
  | q + 1, h => by
    rw [abs_chunk v l q (by omega)]
    exact mixN_lt _ _ (absTo_lt v l hv q (by omega)) (wordF_lt8 _ (by simp; omega))
theorem sum_chunks (s : ByteArray) (v : S4) (x : Int) (hz : s.size ≤ 140737488355328) (hv : Lt4 v) : ∀ (q k : Nat), 8 * q ≤ s.size → 9 ≤ k →
    scantlingref01_Sum.l0 (k + q) s (L4 v) x = scantlingref01_Sum.l0 k (s.extract (8 * q) s.size) (L4 (absTo v s.data.toList (8 * q)).1) x
  | 0, k, _, _ => by
    have e : s.extract 0 s.size = s := ByteArray.ext (Array.toList_inj.1 (by rw [ext_data]; rfl))
    rw [show 8 * 0 = 0 from rfl, e]
    rfl
  | q + 1, k, h, hk => by
    have hlen : s.data.toList.length = s.size := data_length s
    have hsz := ext_size s (8 * q) (by omega)
    have ee : (s.extract (8 * q) s.size).extract 8 (s.extract (8 * q) s.size).size = s.extract (8 * (q + 1)) s.size := by
      refine ByteArray.ext (Array.toList_inj.1 ?_)
      rw [ext_data, ext_data, ext_data, List.drop_drop]
      rfl
    rw [show k + (q + 1) = (k + 1) + q by omega, sum_chunks s v x hz hv q (k + 1) (by omega) (by omega), sum_step k _ _ x (by omega) (by omega) hk (absTo_lt v _ hv q (by omega)), ee, ext_data, abs_chunk v _ q (by omega)]
theorem L4_init (a b : Nat) (ha : a < M64) (hb : b < M64) : ([Go.bits .xor .u64 (a : Int) 8317987319222330741, Go.bits .xor .u64 (b : Int) 7237128888997146477, Go.bits .xor .u64 (a : Int) 7816392313619706465, Go.bits .xor .u64 (b : Int) 8387220255154660723] : List Int) = L4 (initN a b) := by
  have x0 := xor_nat a 8317987319222330741 ha (by decide)
  have x1 := xor_nat b 7237128888997146477 hb (by decide)
  have x2 := xor_nat a 7816392313619706465 ha (by decide)
  have x3 := xor_nat b 8387220255154660723 hb (by decide)
  have e : L4 (initN a b) = [((a ^^^ 8317987319222330741 : Nat) : Int), ((b ^^^ 7237128888997146477 : Nat) : Int), ((a ^^^ 7816392313619706465 : Nat) : Int), ((b ^^^ 8387220255154660723 : Nat) : Int)] := rfl
  rw [e, ← x0, ← x1, ← x2, ← x3]
  rfl
/-- The document's own Sum. -/
theorem refSum (a b : Nat) (s : ByteArray) (k : Nat) (ha : a < M64) (hb : b < M64) (hz : s.size ≤ 140737488355328) (hk : s.size + 20 ≤ k) :
    scantlingref01_Sum.f k (a : Int) (b : Int) s = some ((sumN a b s.data.toList : Nat) : Int) := by
  have hlen : s.data.toList.length = s.size := data_length s
  have hv := initN_lt a b ha hb
  unfold scantlingref01_Sum.f
  rw [L4_init a b ha hb]
  have ew : IntKind.u64.wrap (s.size : Int) = ((s.size : Nat) : Int) := by
    rw [wrap_nat, Nat.mod_eq_of_lt (Nat.lt_of_le_of_lt hz (by decide))]
  rw [ew]
  obtain ⟨q, hq⟩ : ∃ q, q = s.size / 8 := ⟨_, rfl⟩
  obtain ⟨j, rfl⟩ : ∃ j, k = (j + 1) + q := ⟨k - 1 - q, by omega⟩
  have hsz := ext_size s (8 * q) (by omega)
  rw [sum_chunks s _ _ hz hv q (j + 1) (by omega) (by omega), sum_end j _ _ _ (by omega) (by omega) (absTo_lt _ _ hv q (by omega)), ext_data]
  have hp := abs_part (initN a b) s.data.toList q (s.size - 8 * q) (by omega) (by omega)
  rw [show 8 * q + (s.size - 8 * q) = s.data.toList.length by omega, List.take_of_length_le (by simp)] at hp
  have e : sumN a b s.data.toList = endN (rnds 4 ((mixN (absTo (initN a b) s.data.toList (8 * q)).1 (wordF (s.data.toList.drop (8 * q)) ||| (s.size * 2 ^ 56 % M64))).1, (mixN (absTo (initN a b) s.data.toList (8 * q)).1 (wordF (s.data.toList.drop (8 * q)) ||| (s.size * 2 ^ 56 % M64))).2.1, (mixN (absTo (initN a b) s.data.toList (8 * q)).1 (wordF (s.data.toList.drop (8 * q)) ||| (s.size * 2 ^ 56 % M64))).2.2.1 ^^^ 255, (mixN (absTo (initN a b) s.data.toList (8 * q)).1 (wordF (s.data.toList.drop (8 * q)) ||| (s.size * 2 ^ 56 % M64))).2.2.2)) := by
    unfold sumN
    rw [hp, hlen]
  rw [e]

end Go.Proofs.YtjlhfjcjmeonmaaDoor.HSip
