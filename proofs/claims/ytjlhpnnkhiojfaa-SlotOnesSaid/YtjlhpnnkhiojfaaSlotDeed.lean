/- SlotPlays: a deed's key, walked. -/
import Derived.Test.YtjlhpnnkhiojfaaSlotRef
import Derived.Test.YtjlhpnnkhiojfaaSlotChurn
namespace Go.Proofs.Ytjlhpnnkhiojfaa.HSlot
set_option linter.unusedVariables false
open Go.RowKit Go.Proofs.Ytjlhpnnkhiojfaa.Print Go.Proofs.Ytjlhpnnkhiojfaa.HSip Go.Proofs.YtjlhpnnkhiojfaaW.PrintWords Go.Proofs.YtjlhpnnkhiojfaaW.PrintLast Go.Proofs.YtjlhpnnkhiojfaaW.PrintMore

structure Dd where
  kind : Int
  k : Int
  s : ByteArray
  raw : Bool
def Dd.v (d : Dd) : Value := .agg #[.int .u8 d.kind, .int .u16 d.k, .string d.s, .bool d.raw]
/-- A deed's key. -/
def Dd.key (d : Dd) (many : Int) : ByteArray := if d.raw = true then d.s else strOfNums [107, (d.k % (if many < 1 then 1 else many)) / 256, (d.k % (if many < 1 then 1 else many)) % 256]
/-- Three bytes as a text. -/
theorem cv_three (W : World) (x y z : Int) : (convert 29 9 (.slice (some ⟨W.heap.size, 0, none⟩) 3 3)).run Try.prog (W.alloc (Obj.cells #[.int .u8 x, .int .u8 y, .int .u8 z] 5)) = .ok (.string (strOfNums [x, y, z])) (W.alloc (Obj.cells #[.int .u8 x, .int .u8 y, .int .u8 z] 5)) :=
  run_convert_bytes_arg (P := Try.prog) (W.alloc (Obj.cells #[.int .u8 x, .int .u8 y, .int .u8 z] 5)) 29 5 Try.underlying29 Try.underlying5 W.heap.size 0 3 3 [x, y, z] rfl (fun i hi => by
    rw [Nat.zero_add]
    match i, hi with
    | 0, _ => simp
    | 1, _ => simp
    | 2, _ => simp) 9 Try.underlying9
theorem dkey_any (d : Dd) (many : Int) (hm : 0 ≤ many ∧ many < 65536) (hk : 0 ≤ d.k ∧ d.k < 65536) (w : World) :
    Calls Try.prog 14 #[d.v, .int .u16 many] w fun e w' => e = .returned (.string (d.key many)) ∧ Below w.heap.size w w' := by
  obtain ⟨kind, k, s, raw⟩ := d
  cases raw
  · unfold Dd.v
    simp only at *
    by_cases hlt : many < 1
    · have E := Lib.hid (show Dd.key ⟨kind, k, s, false⟩ many = strOfNums [107, 0, 0] by unfold Dd.key; rw [if_neg (by simp), if_pos hlt, Int.emod_one]; rfl)
      have hcv := cv_three (w.alloc (Obj.cells #[.int .u8 kind, .int .u16 k, .string s, .bool false] 40)) 107 0 0
      rw [show (w.alloc (Obj.cells #[.int .u8 kind, .int .u16 k, .string s, .bool false] 40)).heap.size = w.heap.size + 1 by simp] at hcv
      obtain ⟨t, ht⟩ : ∃ t, t = strOfNums [107, 0, 0] := ⟨_, rfl⟩
      rw [← ht] at hcv E
      clear ht
      go_enter Try.func14, Try.ntmps14
      go_wp2
      go_ret
      exact ⟨by rw [E.out]; rfl, ((Below.refl _ _).alloc (Nat.le_refl _) _).alloc (by simp) _⟩
    · obtain ⟨n, hn⟩ : ∃ n, n = k % many := ⟨_, rfl⟩
      have hn2 : 0 ≤ n ∧ n < 65536 := by
        rw [hn]
        have h1 := Int.emod_nonneg k (show many ≠ 0 by omega)
        have h2 := Int.emod_lt_of_pos k (show 0 < many by omega)
        omega
      have hn' := hn.symm
      have E := Lib.hid (show Dd.key ⟨kind, k, s, false⟩ many = strOfNums [107, n / 256, n % 256] by unfold Dd.key; rw [if_neg (by simp), if_neg hlt, hn])
      have hcv := cv_three (w.alloc (Obj.cells #[.int .u8 kind, .int .u16 k, .string s, .bool false] 40)) 107 (n / 256) (n % 256)
      rw [show (w.alloc (Obj.cells #[.int .u8 kind, .int .u16 k, .string s, .bool false] 40)).heap.size = w.heap.size + 1 by simp] at hcv
      obtain ⟨t, ht⟩ : ∃ t, t = strOfNums [107, n / 256, n % 256] := ⟨_, rfl⟩
      rw [← ht] at hcv E
      have htm : k.tmod many = n := by rw [Int.tmod_eq_emod_of_nonneg hk.1]; exact hn'
      have hz : (many == 0) = false := by rw [beq_eq_false_iff_ne]; omega
      clear ht hn
      go_enter Try.func14, Try.ntmps14
      go_wp2
      go_ret
      exact ⟨by rw [E.out]; rfl, ((Below.refl _ _).alloc (Nat.le_refl _) _).alloc (by simp) _⟩
  · unfold Dd.v
    simp only at *
    go_enter Try.func14, Try.ntmps14
    go_wp2
    go_ret
    exact ⟨rfl, (Below.refl _ _).alloc (Nat.le_refl _) _⟩
end Go.Proofs.Ytjlhpnnkhiojfaa.HSlot
