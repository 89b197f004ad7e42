/- Plain laws: ranks are places in the sorted list. -/
import Derived.Test.YtmhljblfbnjopaaHistOf
import Derived.Test.YtmhljblfbnjopaaBkPlain
namespace Go.Proofs.Ytmhljblfbnjopaa.HHist
set_option linter.unusedVariables false
open Go.RowKit Go.Proofs.Ytmhljblfbnjopaa.HMem Go.Proofs.Ytmhljblfbnjopaa.HBucket
open Go.Proofs.Ytmhljblfbnjopaa.Print (I64)

/-- Each bucket as often as there is something in it. -/
def spread : IL → List Int
  | [] => []
  | x :: r => List.replicate x.2 x.1 ++ spread r
theorem spread_length : ∀ l : IL, (spread l).length = total l
  | [] => rfl
  | x :: r => by simp [spread, total, spread_length r]
theorem rankL_spread : ∀ (l : IL) (k : Nat), rankL l (k + 1) = (spread l)[k]?
  | [], k => rfl
  | x :: r, k => by
    unfold rankL spread
    by_cases h : k + 1 ≤ x.2
    · rw [if_pos h, List.getElem?_append_left (by rw [List.length_replicate]; omega), List.getElem?_replicate_of_lt (by omega)]
    · rw [if_neg h, List.getElem?_append_right (by rw [List.length_replicate]; omega), List.length_replicate, show k + 1 - x.2 = (k - x.2) + 1 by omega]
      exact rankL_spread r _
theorem spread_mem : ∀ (l : IL) (a : Int), a ∈ spread l → ∃ x ∈ l, x.1 = a
  | [], a, h => by simp [spread] at h
  | x :: r, a, h => by
    rcases List.mem_append.1 h with h | h
    · exact ⟨x, by simp, (List.eq_of_mem_replicate h).symm⟩
    · obtain ⟨y, hy, e⟩ := spread_mem r a h
      exact ⟨y, by simp [hy], e⟩
theorem rise_spread : ∀ (l : IL), Rise l → (spread l).Pairwise (· ≤ ·)
  | [], _ => List.Pairwise.nil
  | x :: r, h => by
    refine List.pairwise_append.2 ⟨?_, rise_spread r h.tail, fun a ha c hc => ?_⟩
    · exact List.pairwise_replicate.2 (.inr (Int.le_refl _))
    · obtain ⟨y, hy, rfl⟩ := spread_mem r c hc
      rw [List.eq_of_mem_replicate ha]
      exact Int.le_of_lt (h.head y hy)
theorem spread_more : ∀ (l : IL) (a : Int) (m : Nat), (spread (moreL l a m)).Perm (List.replicate m a ++ spread l)
  | [], a, m => by simp [moreL, spread]
  | x :: r, a, m => by
    have e : spread (x :: r) = List.replicate x.2 x.1 ++ spread r := rfl
    unfold moreL
    split
    · refine (List.Perm.append_left _ (spread_more r a m)).trans ?_
      rw [e, ← List.append_assoc, ← List.append_assoc]
      exact List.Perm.append_right _ List.perm_append_comm
    · split
      · rename_i h1 h2
        rw [e, show x.1 = a from h2]
        show (List.replicate (x.2 + m) a ++ spread r).Perm _
        rw [← List.append_assoc, List.replicate_append_replicate, Nat.add_comm]
      · exact List.Perm.refl _
theorem spread_fold (b : Nat) : ∀ (ns : List Int) (l : IL), (spread (ns.foldl (fun l n => moreL l (ofZ b n) 1) l)).Perm (ns.map (ofZ b) ++ spread l)
  | [], l => List.Perm.refl _
  | n :: r, l => by
    rw [List.foldl_cons, List.map_cons]
    refine (spread_fold b r _).trans ?_
    refine (List.Perm.append_left _ (spread_more l _ 1)).trans ?_
    exact List.perm_middle
theorem spread_of (b : Nat) (ns : List Int) : (spread (ofL b ns)).Perm (ns.map (ofZ b)) := by
  have := spread_fold b ns []
  simpa [ofL, spread] using this
theorem rise_ofL (b : Nat) (ns : List Int) : Rise (ofL b ns) := by
  suffices h : ∀ (ns : List Int) (l : IL), Rise l → Rise (ns.foldl (fun l n => moreL l (ofZ b n) 1) l) from h ns [] List.Pairwise.nil
  intro ns
  induction ns with
  | nil => intro l h; exact h
  | cons n r ih => intro l h; exact ih _ (h.more _ _ _)
theorem sorted_eq {xs ys : List Int} (hx : xs.Pairwise (· ≤ ·)) (hy : ys.Pairwise (· ≤ ·)) (h : xs.Perm ys) : xs = ys :=
  List.Perm.eq_of_pairwise (fun a c _ _ h1 h2 => Int.le_antisymm h1 h2) hx hy h
/-- The sorted numbers' buckets are the buckets, each as often. -/
theorem spread_sorted (b : Nat) (hb : b ≤ 4) (ns ss : List Int) (hp : ss.Perm ns) (hs : ss.Pairwise (· ≤ ·)) (hi : ∀ x ∈ ns, I64 x) : spread (ofL b ns) = ss.map (ofZ b) := by
  refine sorted_eq (rise_spread _ (rise_ofL b ns)) ?_ ((spread_of b ns).trans (hp.map _).symm)
  rw [List.pairwise_map]
  refine hs.imp_of_mem fun h1 h2 h => ?_
  exact ofZ_mono b _ _ hb h (hi _ (hp.mem_iff.1 h1)).1 (hi _ (hp.mem_iff.1 h2)).2
theorem rankZ_at (l : IL) (k : Nat) (a : Int) (h : (spread l)[k]? = some a) : rankZ l (k + 1) = (a, true) := by
  unfold rankZ
  rw [if_neg (by omega), rankL_spread, h]
theorem rankZ_over (l : IL) : rankZ l (total l + 1) = (0, false) := by
  unfold rankZ
  rw [if_neg (by omega), rankL_spread, List.getElem?_eq_none (by rw [spread_length]; exact Nat.le_refl _)]
theorem rankZ_zero (l : IL) : rankZ l 0 = (0, false) := rfl
/-- The rank of a part. -/
def prt (n num den : Nat) : Nat := max ((n * num + den - 1) / den) 1
theorem prt_le (n num den : Nat) (h : num ≤ den) (hd : 1 ≤ den) (hn : 1 ≤ n) : 1 ≤ prt n num den ∧ prt n num den ≤ n := by
  have h1 : (n * num + den - 1) / den < n + 1 := by
    rw [Nat.div_lt_iff_lt_mul (by omega), Nat.add_mul, Nat.one_mul]
    have := Nat.mul_le_mul_left n h
    omega
  unfold prt
  omega
theorem prt_mono (n p q den : Nat) (h : p ≤ q) : prt n p den ≤ prt n q den := by
  have h1 : (n * p + den - 1) / den ≤ (n * q + den - 1) / den := Nat.div_le_div_right (by have := Nat.mul_le_mul_left n h; omega)
  unfold prt
  omega
theorem prt_zero (n den : Nat) (hd : 1 ≤ den) : prt n 0 den = 1 := by
  unfold prt
  rw [Nat.mul_zero, Nat.zero_add, Nat.div_eq_of_lt (by omega)]
  rfl
theorem prt_all (n den : Nat) (hd : 1 ≤ den) (hn : 1 ≤ n) : prt n den den = n := by
  have : (n * den + den - 1) / den = n := by
    rw [show n * den + den - 1 = (den - 1) + den * n by rw [Nat.mul_comm]; omega, Nat.add_mul_div_left _ _ (by omega), Nat.div_eq_of_lt (by omega), Nat.zero_add]
  unfold prt
  omega
theorem quantL_at (b : Nat) (l : IL) (num den : Nat) (h : num ≤ den) (hd : 1 ≤ den) (hd2 : den ≤ 1000000) (hn : 1 ≤ total l) : ∃ a, (spread l)[prt (total l) num den - 1]? = some a ∧ quantL b l num den = (loZ b a, hiZ b a, 0) := by
  obtain ⟨h1, h2⟩ := prt_le (total l) num den h hd hn
  have h3 : prt (total l) num den - 1 < (spread l).length := by rw [spread_length]; omega
  refine ⟨_, List.getElem?_eq_getElem h3, ?_⟩
  have h4 := rankZ_at l _ _ (List.getElem?_eq_getElem h3)
  rw [show prt (total l) num den - 1 + 1 = prt (total l) num den by omega] at h4
  unfold quantL
  rw [if_neg (by omega), if_neg (by omega), show max ((total l * num + den - 1) / den) 1 = prt (total l) num den from rfl, h4]
theorem quantL_none (b : Nat) (num den : Nat) (h : num ≤ den) (hd : 1 ≤ den) (hd2 : den ≤ 1000000) (l : IL) (hn : total l = 0) : quantL b l num den = (0, 0, 5) := by
  unfold quantL
  rw [if_neg (by omega), if_pos hn]
theorem quantL_arg (b : Nat) (num den : Nat) (h : den < 1 ∨ 1000000 < den ∨ den < num) (l : IL) : quantL b l num den = (0, 0, 1) := by
  unfold quantL
  rw [if_pos h]
theorem loZ_mono (b : Nat) (a c : Int) (hb : b ≤ 4) (h : a ≤ c) (h0 : -(mostN b : Int) - 1 ≤ a) (h1 : c ≤ mostN b) : loZ b a ≤ loZ b c ∧ hiZ b a ≤ hiZ b c := by
  obtain ⟨e1, e2⟩ := of_loZ b a hb h0 (by omega)
  obtain ⟨f1, f2⟩ := of_loZ b c hb (by omega) h1
  have r1 := bounds_range b a hb h0 (by omega)
  have r2 := bounds_range b c hb (by omega) h1
  by_cases e : a = c
  · subst e; exact ⟨Int.le_refl _, Int.le_refl _⟩
  · constructor
    · by_cases g : loZ b a ≤ loZ b c
      · exact g
      · have := ofZ_mono b (loZ b c) (loZ b a) hb (by omega) (by omega) (by omega)
        omega
    · by_cases g : hiZ b a ≤ hiZ b c
      · exact g
      · have := ofZ_mono b (hiZ b c) (hiZ b a) hb (by omega) (by omega) (by omega)
        omega
theorem spread_range (b : Nat) (hb : b ≤ 4) (al : List Int) (hi : ∀ x ∈ al, I64 x) (a : Int) (h : a ∈ spread (ofL b al)) : ∃ x ∈ al, ofZ b x = a ∧ -(mostN b : Int) - 1 ≤ a ∧ a ≤ mostN b := by
  have := (spread_of b al).mem_iff.1 h
  obtain ⟨x, hx, rfl⟩ := List.mem_map.1 this
  exact ⟨x, hx, rfl, ofZ_range b x hb (hi x hx).1 (hi x hx).2⟩
theorem parts_plain (b : Nat) (hb : b ≤ 4) (al : List Int) (hn : 1 ≤ al.length) (hi : ∀ x ∈ al, I64 x) (lo mo : Int) (hlo : lo ∈ al) (hmo : mo ∈ al) (h1 : ∀ x ∈ al, lo ≤ x) (h2 : ∀ x ∈ al, x ≤ mo) (p q : Nat) (hpq : p ≤ q) (hq : q ≤ 20) :
    ∃ A B C D : Int, quantL b (ofL b al) p 20 = (loZ b A, hiZ b A, 0) ∧ quantL b (ofL b al) q 20 = (loZ b B, hiZ b B, 0) ∧ quantL b (ofL b al) 0 7 = (loZ b C, hiZ b C, 0) ∧ quantL b (ofL b al) 9 9 = (loZ b D, hiZ b D, 0) ∧
      (loZ b A ≤ loZ b B ∧ hiZ b A ≤ hiZ b B) ∧ (loZ b C ≤ lo ∧ lo ≤ hiZ b C) ∧ (loZ b D ≤ mo ∧ mo ≤ hiZ b D) := by
  have ht : total (ofL b al) = al.length := total_ofL b al
  have hs := rise_spread _ (rise_ofL b al)
  obtain ⟨A, hA, eA⟩ := quantL_at b (ofL b al) p 20 (by omega) (by omega) (by omega) (by omega)
  obtain ⟨B, hB, eB⟩ := quantL_at b (ofL b al) q 20 (by omega) (by omega) (by omega) (by omega)
  obtain ⟨C, hC, eC⟩ := quantL_at b (ofL b al) 0 7 (by omega) (by omega) (by omega) (by omega)
  obtain ⟨D, hD, eD⟩ := quantL_at b (ofL b al) 9 9 (by omega) (by omega) (by omega) (by omega)
  have mA := List.mem_of_getElem? hA
  have mB := List.mem_of_getElem? hB
  have mC := List.mem_of_getElem? hC
  have mD := List.mem_of_getElem? hD
  have lenS := spread_length (ofL b al)
  have order : ∀ (i j : Nat) (x y : Int), i ≤ j → (spread (ofL b al))[i]? = some x → (spread (ofL b al))[j]? = some y → x ≤ y := by
    intro i j x y hij hx hy
    obtain ⟨hi', rfl⟩ := List.getElem?_eq_some_iff.1 hx
    obtain ⟨hj', rfl⟩ := List.getElem?_eq_some_iff.1 hy
    by_cases e : i = j
    · subst e; exact Int.le_refl _
    · exact List.pairwise_iff_getElem.1 hs i j hi' hj' (by omega)
  obtain ⟨_, _, _, rA1, rA2⟩ := spread_range b hb al hi A mA
  obtain ⟨_, _, _, rB1, rB2⟩ := spread_range b hb al hi B mB
  have hAB : A ≤ B := order _ _ _ _ (by have := prt_mono (total (ofL b al)) p q 20 hpq; omega) hA hB
  have eCe : C = ofZ b lo := by
    obtain ⟨x, hx, rfl, _⟩ := spread_range b hb al hi C mC
    have g1 := ofZ_mono b lo x hb (h1 x hx) (hi lo hlo).1 (hi x hx).2
    obtain ⟨j, hj, hj2⟩ := List.getElem_of_mem ((spread_of b al).mem_iff.2 (List.mem_map_of_mem (f := ofZ b) hlo))
    have g2 := order (prt (total (ofL b al)) 0 7 - 1) j _ _ (by rw [prt_zero _ _ (by omega)]; omega) hC (by rw [List.getElem?_eq_getElem hj, hj2])
    omega
  have eDe : D = ofZ b mo := by
    obtain ⟨x, hx, rfl, _⟩ := spread_range b hb al hi D mD
    have g1 := ofZ_mono b x mo hb (h2 x hx) (hi x hx).1 (hi mo hmo).2
    obtain ⟨j, hj, hj2⟩ := List.getElem_of_mem ((spread_of b al).mem_iff.2 (List.mem_map_of_mem (f := ofZ b) hmo))
    have g2 := order j (prt (total (ofL b al)) 9 9 - 1) _ _ (by rw [prt_all _ _ (by omega) (by omega)]; omega) (by rw [List.getElem?_eq_getElem hj, hj2]) hD
    omega
  refine ⟨A, B, C, D, eA, eB, eC, eD, loZ_mono b A B hb hAB rA1 rB2, ?_, ?_⟩
  · rw [eCe]; exact holdsZ b lo hb (hi lo hlo).1 (hi lo hlo).2
  · rw [eDe]; exact holdsZ b mo hb (hi mo hmo).1 (hi mo hmo).2
end Go.Proofs.Ytmhljblfbnjopaa.HHist
