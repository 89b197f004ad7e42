/- What the document's own Sum answers: sumN. -/
import Derived.Test.YtjlhfjcjmeonmaaDoorSipLaws
namespace Go.Proofs.YtjlhfjcjmeonmaaDoor.HSip
open Go.RowKit Go.Proofs.YtjlhfjcjmeonmaaDoor.Print Go.Proofs.YtjlhfjcjmeonmaaDoorW.PrintWords Go.Proofs.YtjlhfjcjmeonmaaDoorW.PrintLast Go.Proofs.YtjlhfjcjmeonmaaDoorW.PrintMore

theorem turn_f (x k : Nat) (hx : x < M64) (hk : k < 64) (hk0 : 0 < k) : scantlingref01_turn.f (x : Int) (k : Int) = some ((rotl x k : Nat) : Int) := by
  have hx' := hx
  unfold M64 at hx
  unfold scantlingref01_turn.f
  have e3 : wrap64 (64 - (k : Int)) = ((64 - k : Nat) : Int) := by unfold wrap64; omega
  rw [e3, if_pos (by omega), if_pos (by omega)]
  have s1 : shl .u64 (x : Int) (k : Int) = ((x * 2 ^ k % M64 : Nat) : Int) := by
    unfold shl
    rw [Int.toNat_natCast, Nat.min_eq_left (by simp only [IntKind.bits]; omega), ← wrap_nat]
    congr 1
  have s2 : shr .u64 (x : Int) ((64 - k : Nat) : Int) = ((x / 2 ^ (64 - k) : Nat) : Int) := by
    unfold shr
    rw [Int.toNat_natCast, Nat.min_eq_left (by simp only [IntKind.bits]; omega)]
    push_cast; rfl
  rw [s1, s2, or_nat _ _ (Nat.mod_lt _ (by decide)) (Nat.lt_of_le_of_lt (Nat.div_le_self _ _) hx')]
  rfl

def L4 (v : S4) : List Int := [(v.1 : Int), (v.2.1 : Int), (v.2.2.1 : Int), (v.2.2.2 : Int)]
theorem rnd_lt (v : S4) (h : Lt4 v) : Lt4 (rnd v) := by
  obtain ⟨h0, h1, h2, h3⟩ := h
  unfold rnd
  exact ⟨add_lt _ _, xor_lt _ _ (rotl_lt _ _ (xor_lt _ _ (rotl_lt _ _ h1 (by decide)) (add_lt _ _)) (by decide)) (add_lt _ _), rotl_lt _ _ (add_lt _ _) (by decide), xor_lt _ _ (rotl_lt _ _ (xor_lt _ _ (rotl_lt _ _ h3 (by decide)) (add_lt _ _)) (by decide)) (add_lt _ _)⟩
theorem turn_is (x k : Nat) (y : Int) (hy : y = (k : Int)) (hx : x < M64) (hk : k < 64) (hk0 : 0 < k) (r : Nat) (hr : r = rotl x k) : scantlingref01_turn.f (x : Int) y = some (r : Int) := by
  rw [hy, hr]; exact turn_f x k hx hk hk0
theorem xor_is (x y r : Nat) (hx : x < M64) (hy : y < M64) (hr : r = x ^^^ y) : Go.bits .xor .u64 (x : Int) (y : Int) = (r : Int) := by
  rw [hr]; exact xor_nat x y hx hy
theorem add_is64 (x y r : Nat) (hr : r = add64 x y) : IntKind.u64.wrap ((x : Int) + (y : Int)) = (r : Int) := by
  rw [hr]; exact add_eq x y
theorem round_f (v : S4) (h : Lt4 v) : scantlingref01_round.f (L4 v) = some (L4 (rnd v)) := by
  obtain ⟨v0, v1, v2, v3⟩ := v
  obtain ⟨h0, h1, h2, h3⟩ := h
  simp only at h0 h1 h2 h3
  obtain ⟨A, hA⟩ : ∃ A, A = add64 v0 v1 := ⟨_, rfl⟩
  obtain ⟨C, hC⟩ : ∃ C, C = add64 v2 v3 := ⟨_, rfl⟩
  obtain ⟨R, hR⟩ : ∃ R, R = rotl v1 13 := ⟨_, rfl⟩
  obtain ⟨S, hS⟩ : ∃ S, S = rotl v3 16 := ⟨_, rfl⟩
  obtain ⟨B, hB⟩ : ∃ B, B = R ^^^ A := ⟨_, rfl⟩
  obtain ⟨D, hD⟩ : ∃ D, D = S ^^^ C := ⟨_, rfl⟩
  obtain ⟨A2, hA2⟩ : ∃ A2, A2 = rotl A 32 := ⟨_, rfl⟩
  obtain ⟨C2, hC2⟩ : ∃ C2, C2 = add64 C B := ⟨_, rfl⟩
  obtain ⟨A3, hA3⟩ : ∃ A3, A3 = add64 A2 D := ⟨_, rfl⟩
  obtain ⟨B2, hB2⟩ : ∃ B2, B2 = rotl B 17 := ⟨_, rfl⟩
  obtain ⟨D2, hD2⟩ : ∃ D2, D2 = rotl D 21 := ⟨_, rfl⟩
  obtain ⟨C3, hC3⟩ : ∃ C3, C3 = rotl C2 32 := ⟨_, rfl⟩
  obtain ⟨B3, hB3⟩ : ∃ B3, B3 = B2 ^^^ C2 := ⟨_, rfl⟩
  obtain ⟨D3, hD3⟩ : ∃ D3, D3 = D2 ^^^ A3 := ⟨_, rfl⟩
  have E : rnd (v0, v1, v2, v3) = (A3, B3, C3, D3) := by
    subst hB3 hD3 hC3 hB2 hD2 hA3 hC2 hA2 hB hD hR hS hA hC
    rfl
  rw [E]
  clear E
  have a1 : A < M64 := by rw [hA]; exact add_lt _ _
  have a2 : C < M64 := by rw [hC]; exact add_lt _ _
  have a3 : R < M64 := by rw [hR]; exact rotl_lt _ _ h1 (by decide)
  have a4 : S < M64 := by rw [hS]; exact rotl_lt _ _ h3 (by decide)
  have a5 : B < M64 := by rw [hB]; exact xor_lt _ _ a3 a1
  have a6 : D < M64 := by rw [hD]; exact xor_lt _ _ a4 a2
  have a7 : C2 < M64 := by rw [hC2]; exact add_lt _ _
  have a8 : A3 < M64 := by rw [hA3]; exact add_lt _ _
  have a9 : B2 < M64 := by rw [hB2]; exact rotl_lt _ _ a5 (by decide)
  have a10 : D2 < M64 := by rw [hD2]; exact rotl_lt _ _ a6 (by decide)
  have t1 := turn_is v1 13 13 rfl h1 (by decide) (by decide) R hR
  have t2 := turn_is v3 16 16 rfl h3 (by decide) (by decide) S hS
  have t3 := turn_is A 32 32 rfl a1 (by decide) (by decide) A2 hA2
  have t4 := turn_is B 17 17 rfl a5 (by decide) (by decide) B2 hB2
  have t5 := turn_is D 21 21 rfl a6 (by decide) (by decide) D2 hD2
  have t6 := turn_is C2 32 32 rfl a7 (by decide) (by decide) C3 hC3
  have q1 := add_is64 v0 v1 A hA
  have q2 := add_is64 v2 v3 C hC
  have q3 := add_is64 C B C2 hC2
  have q4 := add_is64 A2 D A3 hA3
  have x1 := xor_is R A B a3 a1 hB
  have x2 := xor_is S C D a4 a2 hD
  have x3 := xor_is B2 C2 B3 a9 a7 hB3
  have x4 := xor_is D2 A3 D3 a10 a8 hD3
  have e0 : rd (L4 (v0, v1, v2, v3)) 0 = (v0 : Int) := rfl
  have e1 : rd (L4 (v0, v1, v2, v3)) 1 = (v1 : Int) := rfl
  have e2 : rd (L4 (v0, v1, v2, v3)) 2 = (v2 : Int) := rfl
  have e3 : rd (L4 (v0, v1, v2, v3)) 3 = (v3 : Int) := rfl
  have hl : ((L4 (v0, v1, v2, v3)).length : Int) = 4 := rfl
  clear hA hC hR hS hB hD hA2 hC2 hA3 hB2 hD2 hC3 hB3 hD3
  unfold scantlingref01_round.f
  rw [e0, e1, e2, e3, hl, if_pos (by decide), if_pos (by decide), if_pos (by decide), if_pos (by decide)]
  rw [t1, Option.bind_some, t2, Option.bind_some, q1, q2, t3, Option.bind_some, x1, t4, Option.bind_some, x2, t5, Option.bind_some, q3, t6, Option.bind_some, q4, x3, x4]
  rfl

theorem rounds_f (v : S4) (h : Lt4 v) : (scantlingref01_round.f (L4 v)).bind (fun t => scantlingref01_round.f t) = some (L4 (rnds 2 v)) := by
  rw [round_f v h, Option.bind_some, round_f _ (rnd_lt v h)]
  rfl

/-- The bytes as a word, the lowest first. -/
def wordF : List UInt8 → Nat
  | [] => 0
  | c :: r => c.toNat + 256 * wordF r
theorem wordF_lt : ∀ (l : List UInt8), wordF l < 256 ^ l.length
  | [] => by decide
  | c :: r => by
    have := wordF_lt r
    have hc := c.toNat_lt
    simp only [wordF, List.length_cons, Nat.pow_succ]
    omega
theorem or_byte (x c : Nat) (hc : c < 256) : (x * 256) ||| c = x * 256 + c := by
  have := Nat.two_pow_add_eq_or_of_lt (i := 8) (b := c) (by omega) x
  rw [Nat.mul_comm]
  exact this.symm

theorem word_l (s : ByteArray) (hs : s.size ≤ 8) : ∀ (i k : Nat), i ≤ s.size → i < k →
    scantlingref01_word.l0 k s ((wordF (s.data.toList.drop i) : Nat) : Int) ((i : Int) - 1) = some ((wordF s.data.toList : Nat) : Int)
  | 0, k, _, hk => by
    obtain ⟨k, rfl⟩ : ∃ q, k = q + 1 := ⟨k - 1, by omega⟩
    unfold scantlingref01_word.l0
    rw [if_neg (by omega)]
    rfl
  | i + 1, k, hi, hk => by
    obtain ⟨k, rfl⟩ : ∃ q, k = q + 1 := ⟨k - 1, by omega⟩
    unfold scantlingref01_word.l0
    have e1 : (((i + 1 : Nat) : Int) - 1) = (i : Int) := by omega
    rw [e1, if_pos (by omega), if_pos (by omega), if_pos (by omega)]
    have hlen : s.data.toList.length = s.size := data_length s
    have hil : i < s.data.toList.length := by omega
    have hw := wordF_lt (s.data.toList.drop (i + 1))
    rw [List.length_drop, hlen] at hw
    have hp : 256 ^ (s.size - (i + 1)) ≤ 256 ^ 7 := Nat.pow_le_pow_right (by decide) (by omega)
    have hw7 : wordF (s.data.toList.drop (i + 1)) < 256 ^ 7 := Nat.lt_of_lt_of_le hw hp
    have hb : bt s (i : Int) = ((s.data.toList[i].toNat : Nat) : Int) := by
      rw [← bt_at s (i : Int) (by show (i : Int).toNat < s.size; omega)]
      rfl
    have hc := (s.data.toList[i]).toNat_lt
    have ew : IntKind.u64.wrap ((wordF (s.data.toList.drop (i + 1)) : Nat) * 256 : Int) = ((wordF (s.data.toList.drop (i + 1)) * 256 : Nat) : Int) := by
      show IntKind.u64.wrap ((wordF (s.data.toList.drop (i + 1)) : Nat) * ((256 : Nat) : Int)) = _
      rw [← Int.natCast_mul, wrap_nat, Nat.mod_eq_of_lt (by unfold M64; omega)]
    have eb : IntKind.u64.wrap (bt s (i : Int)) = ((s.data.toList[i].toNat : Nat) : Int) := by
      rw [hb, wrap_nat, Nat.mod_eq_of_lt (by unfold M64; omega)]
    rw [ew, eb, or_nat _ _ (by unfold M64; omega) (by unfold M64; omega), or_byte _ _ hc]
    have es : wordF (s.data.toList.drop (i + 1)) * 256 + s.data.toList[i].toNat = wordF (s.data.toList.drop i) := by
      rw [List.drop_eq_getElem_cons hil]
      simp only [wordF]
      omega
    have ex : wrap64 ((i : Int) - 1) = (i : Int) - 1 := by unfold wrap64; omega
    rw [es, ex]
    exact word_l s hs i k (by omega) (by omega)
theorem word_f (s : ByteArray) (hs : s.size ≤ 8) (k : Nat) (hk : 9 ≤ k) : scantlingref01_word.f k s = some ((wordF s.data.toList : Nat) : Int) := by
  unfold scantlingref01_word.f
  have h := word_l s hs s.size k (Nat.le_refl _) (by omega)
  have hlen : s.data.toList.length = s.size := data_length s
  rw [List.drop_of_length_le (by omega)] at h
  have ex : wrap64 ((s.size : Int) - 1) = (s.size : Int) - 1 := by unfold wrap64; omega
  rw [ex]
  exact h

end Go.Proofs.YtjlhfjcjmeonmaaDoor.HSip
