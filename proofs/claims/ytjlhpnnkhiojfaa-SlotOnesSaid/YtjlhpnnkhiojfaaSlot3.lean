/- The slot table: Drop, Add, clean, walked. -/
import Derived.Test.YtjlhpnnkhiojfaaSlot2
import Derived.Test.YtjlhpnnkhiojfaaQTail
import Derived.RegionCalls
import Derived.BigRegion
namespace Go.Proofs.Ytjlhpnnkhiojfaa.HSlot
set_option linter.unusedVariables false
open Go.RowKit Go.Proofs.Ytjlhpnnkhiojfaa.Print Go.Proofs.Ytjlhpnnkhiojfaa.HSip Go.Proofs.YtjlhpnnkhiojfaaW.PrintWords Go.Proofs.YtjlhpnnkhiojfaaW.PrintLast Go.Proofs.YtjlhpnnkhiojfaaW.PrintMore

/-- What Drop leaves, and answers. -/
def dropT (t : TB) (key : ByteArray) : TB × Bool :=
  if pIs t key = true then ((((t.sk (t.idx (pAt t key) - 1).toNat ⟨#[]⟩).si (pAt t key) (-1)).sm (t.many - 1)).sd (t.dead + 1), true) else (t, false)

set_option maxRecDepth 20000 in
theorem Drop_any (w : World) (b : Nat) (t : TB) (key : ByteArray) (h : TAt w b t) (hf : Fine t) (hk : key.size ≤ 140737488355328) (hm : 0 ≤ t.many ∧ t.many ≤ 1000) (hd : 0 ≤ t.dead ∧ t.dead ≤ 1000) :
    Calls Try.prog 10 #[.pointer (some ⟨b, 0, none⟩), .string key] w fun e w' => e = .returned (.bool (dropT t key).2) ∧ (TAt w' b (dropT t key).1 ∧ Upd b w w') := by
  have HT := Lib.hid h
  clear h
  obtain ⟨q, hq⟩ : ∃ q, q = pAt t key := ⟨_, rfl⟩
  have hq5 : q < 512 := by rw [hq]; exact pAt_lt t key
  have hx := hf q hq5
  go_enter Try.func10, Try.ntmps10
  go_wp2_with fail
  refine (place_any' w b t key HT.out hf hk).mono ?_
  rintro e w1 ⟨rfl, hb⟩
  rw [← hq]
  have B1 := Lib.hid hb
  clear hb
  have T1 := Lib.hid (HT.out.mono B1.out)
  by_cases hp : pIs t key = true
  · have ht := place_there t key hp
    rw [← hq] at ht
    obtain ⟨j, hj, hj2⟩ : ∃ j : Nat, t.idx q = ((j + 1 : Nat) : Int) ∧ j < 256 := ⟨(t.idx q - 1).toNat, by omega, by omega⟩
    have hjn : (t.idx q - 1).toNat = j := by omega
    have E := Lib.hid (show dropT t key = ((((t.sk j ⟨#[]⟩).si q (-1)).sm (t.many - 1)).sd (t.dead + 1), true) by unfold dropT; rw [if_pos hp, ← hq, hjn])
    obtain ⟨m, hm1⟩ : ∃ m : Int, m = ((j + 1 : Nat) : Int) := ⟨_, rfl⟩
    have g3 : wrap64 (m - 1) = (j : Int) := by rw [hm1]; unfold wrap64; omega
    obtain ⟨c, f⟩ := T1.out.ix q hq5
    obtain ⟨ck, fk⟩ := T1.out.key j hj2
    rw [hj, ← hm1] at c
    rw [hp]
    clear hx hp hq ht hj hjn hm1
    go_wp2
    go_region
    obtain ⟨W2, hW⟩ : ∃ W2, W2 = ((w1.setCell ⟨b, j, none⟩ (.string ⟨#[]⟩)).setCell ⟨b, 256 + q, none⟩ (.int .i64 (-1))).drew := ⟨_, rfl⟩
    have T2 := Lib.hid (show TAt W2 b ((t.sk j ⟨#[]⟩).si q (-1)) by rw [hW]; exact ⟨((T1.out.sk j hj2 ⟨#[]⟩).si q hq5 (-1)).ex⟩)
    have U2 := Lib.hid (show Upd b w W2 by
      rw [hW]
      exact ((Upd.of B1.out).trans ((Upd.set0 b _ _ _).trans (Upd.set0 b _ _ _))).trans (Upd.drewN b _ 1))
    rw [← hW]
    clear hW c f ck fk
    obtain ⟨c1, f1⟩ := T2.out.mn
    obtain ⟨c2, f2⟩ := T2.out.dd
    have e1 : wrap64 (t.many - 1) = t.many - 1 := by unfold wrap64; omega
    have e2 : wrap64 (t.dead + 1) = t.dead + 1 := by unfold wrap64; omega
    have hmm : ((t.sk j ⟨#[]⟩).si q (-1)).many = t.many := rfl
    have hdd : ((t.sk j ⟨#[]⟩).si q (-1)).dead = t.dead := rfl
    rw [hmm] at c1
    rw [hdd] at c2
    go_wp2
    go_ret
    refine ⟨by rw [E.out]; rfl, ?_, ?_⟩
    · rw [E.out]
      trace_state
      exact (T2.out.sm (t.many - 1)).sd (t.dead + 1)
    · exact U2.out.trans ((Upd.set0 b _ _ _).trans (Upd.set0 b _ _ _))
  · have hp' : pIs t key = false := by simpa using hp
    have E := Lib.hid (show dropT t key = (t, false) by unfold dropT; rw [if_neg hp])
    rw [hp']
    clear hx hp hq hp'
    go_wp2
    go_ret
    exact ⟨by rw [E.out]; rfl, by rw [E.out]; exact T1.out, Upd.of B1.out⟩

end Go.Proofs.Ytjlhpnnkhiojfaa.HSlot
