/- Keys of labels, plainly: what a key is, that it is split in one way. No conditions. -/
import Derived.Test.YtlmnniajindlgaaLab
namespace Go.Proofs.Ytlmnniajindlgaa.HLab
set_option linter.unusedVariables false
open Go.RowKit Go.Proofs.Ytlmnniajindlgaa.HMem

def plainB (s : ByteArray) : Bool := s.data.toList.all fun c => !(decide (c.toNat < 32) || decide (c.toNat = 127))
/-- May a text be a name? -/
def named (s : ByteArray) : Bool := decide (1 ≤ s.size) && decide (s.size ≤ 64) && plainB s
/-- A text behind its size. -/
def txL (s : ByteArray) : List UInt8 := UInt8.ofNat s.size :: s.data.toList
def encS : LL → List UInt8
  | [] => []
  | x :: r => txL x.1 ++ (txL x.2 ++ encS r)
def encL (n : ByteArray) (s : LL) : List UInt8 := txL n ++ (UInt8.ofNat s.length :: encS s)
def okL (n : ByteArray) (l : LL) : Bool := named n && decide (l.length ≤ 16) && l.all fun x => named x.1 && named x.2
/-- What Key answers. -/
def keyL (n : ByteArray) (l : LL) : ByteArray × Int :=
  if okL n l = false then (⟨#[]⟩, 1) else match sortL l with
    | none => (⟨#[]⟩, 11)
    | some s => if 2048 < (encL n s).length then (⟨#[]⟩, 3) else (⟨⟨encL n s⟩⟩, 0)
theorem keyL_arg {n : ByteArray} {l : LL} (h : okL n l = false) : keyL n l = (⟨#[]⟩, 1) := if_pos h
theorem keyL_double {n : ByteArray} {l : LL} (h : okL n l = true) (e : sortL l = none) : keyL n l = (⟨#[]⟩, 11) := by
  unfold keyL; rw [if_neg (by rw [h]; decide), e]
theorem keyL_long {n : ByteArray} {l s : LL} (h : okL n l = true) (e : sortL l = some s) (k : 2048 < (encL n s).length) : keyL n l = (⟨#[]⟩, 3) := by
  unfold keyL; rw [if_neg (by rw [h]; decide), e]; exact if_pos k
theorem keyL_ok {n : ByteArray} {l s : LL} (h : okL n l = true) (e : sortL l = some s) (k : ¬ 2048 < (encL n s).length) : keyL n l = (⟨⟨encL n s⟩⟩, 0) := by
  unfold keyL; rw [if_neg (by rw [h]; decide), e]; exact if_neg k
/-- A rising list is sorted as it is. -/
theorem insL_end : ∀ (acc : LL) (x : ByteArray × ByteArray), (∀ y ∈ acc, Lt y.1 x.1) → pos acc x.1 = acc.length
  | [], x, h => rfl
  | y :: r, x, h => by
    unfold pos
    rw [if_pos (h y (by simp)), insL_end r x (fun z hz => h z (by simp [hz]))]
    rfl
theorem sortA_self : ∀ (r acc : LL), Rise (acc ++ r) → sortA acc r = some (acc ++ r)
  | [], acc, h => by simp [sortA]
  | x :: r, acc, h => by
    have hb : ∀ y ∈ acc, Lt y.1 x.1 := fun y hy => (List.pairwise_append.1 h).2.2 y hy x (by simp)
    have hp := insL_end acc x hb
    have hn : thereL acc x.1 = false := there_no fun z hz => by rw [hp, List.getElem?_eq_none (Nat.le_refl _)] at hz; cases hz
    have hi : insL acc x = acc ++ [x] := by
      unfold insL
      rw [hp, List.take_length, List.drop_length]
    unfold sortA
    rw [if_neg (by rw [hn]; decide), hi, sortA_self r (acc ++ [x]) (by simpa using h)]
    simp
theorem sortL_self {s : LL} (h : Rise s) : sortL s = some s := by have := sortA_self s [] (by simpa using h); simpa [sortL] using this
theorem okL_perm {n : ByteArray} {l s : LL} (p : s.Perm l) : okL n s = okL n l := by
  unfold okL
  rw [p.length_eq]
  congr 1
  rw [Bool.eq_iff_iff, List.all_eq_true, List.all_eq_true]
  exact ⟨fun h x hx => h x (p.mem_iff.2 hx), fun h x hx => h x (p.mem_iff.1 hx)⟩
/-- A key, and what it tells. -/
structure IsKey (k n : ByteArray) (s : LL) : Prop where
  ok : okL n s = true
  rise : Rise s
  short : (encL n s).length ≤ 2048
  enc : k.data.toList = encL n s
theorem IsKey.of {k n : ByteArray} {l : LL} (h : keyL n l = (k, 0)) : ∃ s, sortL l = some s ∧ IsKey k n s := by
  cases ho : okL n l with
  | false => rw [keyL_arg ho] at h; simp at h
  | true =>
    cases hs : sortL l with
    | none => rw [keyL_double ho hs] at h; simp at h
    | some s =>
      by_cases hk : 2048 < (encL n s).length
      · rw [keyL_long ho hs hk] at h; simp at h
      · rw [keyL_ok ho hs hk] at h
        injection h with h1 h2
        exact ⟨s, rfl, (okL_perm (sortL_perm hs)).trans ho, sortL_rise hs, by omega, by rw [← h1]⟩
theorem IsKey.key {k n : ByteArray} {s : LL} (h : IsKey k n s) : keyL n s = (k, 0) := by
  rw [keyL_ok h.ok (sortL_self h.rise) (by have := h.short; omega)]
  congr 1
  exact bytes_ext h.enc.symm
theorem named_size {s : ByteArray} (h : named s = true) : 1 ≤ s.size ∧ s.size ≤ 64 := by
  unfold named at h
  simp at h
  exact ⟨h.1.1, h.1.2⟩
theorem okL_name {n : ByteArray} {s : LL} (h : okL n s = true) : named n = true ∧ s.length ≤ 16 ∧ ∀ x ∈ s, named x.1 = true ∧ named x.2 = true := by
  unfold okL at h
  simp only [Bool.and_eq_true, decide_eq_true_eq, List.all_eq_true] at h
  exact ⟨h.1.1, h.1.2, h.2⟩
/-- A text off the front: what it is, what stands behind it; none: it is not whole. -/
def takeT : List UInt8 → Option (ByteArray × List UInt8)
  | [] => none
  | c :: r => if r.length < c.toNat then none else some (⟨⟨r.take c.toNat⟩⟩, r.drop c.toNat)
theorem takeT_tx (s : ByteArray) (hs : s.size < 256) (r : List UInt8) : takeT (txL s ++ r) = some (s, r) := by
  have hl : s.data.toList.length = s.size := by rw [Array.length_toList]; rfl
  have hc : (UInt8.ofNat s.size).toNat = s.size := by rw [UInt8.toNat_ofNat']; omega
  unfold txL takeT
  rw [List.cons_append]
  show (if (s.data.toList ++ r).length < (UInt8.ofNat s.size).toNat then none else some (_, _)) = _
  rw [hc, if_neg (by rw [List.length_append, hl]; omega)]
  congr 1
  congr 1
  · refine bytes_ext ?_
    show (s.data.toList ++ r).take s.size = _
    exact List.take_left' hl
  · exact List.drop_left' hl
/-- So many labels off the front. -/
def takeN : Nat → List UInt8 → Option (LL × List UInt8)
  | 0, k => some ([], k)
  | m + 1, k => match takeT k with
    | none => none
    | some (a, r) => match takeT r with
      | none => none
      | some (b, r') => match takeN m r' with
        | none => none
        | some (l, q) => some ((a, b) :: l, q)
theorem takeN_enc : ∀ (s : LL) (r : List UInt8), (∀ x ∈ s, x.1.size < 256 ∧ x.2.size < 256) → takeN s.length (encS s ++ r) = some (s, r)
  | [], r, h => rfl
  | x :: t, r, h => by
    have hx := h x (by simp)
    rw [List.length_cons]
    unfold takeN encS
    rw [List.append_assoc, takeT_tx x.1 hx.1]
    simp only []
    rw [List.append_assoc, takeT_tx x.2 hx.2]
    simp only []
    rw [takeN_enc t r (fun y hy => h y (by simp [hy]))]
/-- All that a key's bytes tell, read from the front. -/
def readL (k : List UInt8) : Option (ByteArray × LL × List UInt8) := match takeT k with
  | none => none
  | some (n, []) => none
  | some (n, c :: r) => match takeN c.toNat r with
    | none => none
    | some (l, q) => some (n, l, q)
theorem IsKey.sizes {k n : ByteArray} {s : LL} (h : IsKey k n s) : n.size < 256 ∧ s.length ≤ 16 ∧ ∀ x ∈ s, x.1.size < 256 ∧ x.2.size < 256 := by
  obtain ⟨h1, h2, h3⟩ := okL_name h.ok
  refine ⟨by have := named_size h1; omega, h2, fun x hx => ?_⟩
  have k1 := named_size (h3 x hx).1
  have k2 := named_size (h3 x hx).2
  omega
theorem IsKey.read {k n : ByteArray} {s : LL} (h : IsKey k n s) : readL k.data.toList = some (n, s, []) := by
  obtain ⟨h1, h2, h3⟩ := h.sizes
  rw [h.enc]
  unfold readL encL
  rw [takeT_tx n h1]
  simp only []
  have hc : (UInt8.ofNat s.length).toNat = s.length := by rw [UInt8.toNat_ofNat']; omega
  rw [hc]
  have := takeN_enc s [] h3
  rw [List.append_nil] at this
  rw [this]
theorem IsKey.one {k n m : ByteArray} {s t : LL} (h : IsKey k n s) (g : IsKey k m t) : n = m ∧ s = t := by
  have e := h.read.symm.trans g.read
  simp at e
  exact e
end Go.Proofs.Ytlmnniajindlgaa.HLab
