/- The slot table: Slots, walked. -/
import Derived.Test.YtjlhpnnkhiojfaaSlotGood
import Derived.Laws.OwnMore
namespace Go.Proofs.Ytjlhpnnkhiojfaa.HSlot
set_option linter.unusedVariables false
open Go.RowKit Go.Proofs.Ytjlhpnnkhiojfaa.Print Go.Proofs.Ytjlhpnnkhiojfaa.HSip Go.Proofs.YtjlhpnnkhiojfaaW.PrintWords Go.Proofs.YtjlhpnnkhiojfaaW.PrintLast Go.Proofs.YtjlhpnnkhiojfaaW.PrintMore

theorem infoInt : (Try.prog.info? 3).map (fun i => (i.zero, i.size, i.bytes)) = some (some (.int .i64 0), 1, 8) := by kernel_rfl
/-- The slots below k that are not free. -/
def sl (keys : Nat → ByteArray) : Nat → List Int
  | 0 => []
  | k + 1 => if keys k = E0 then sl keys k else sl keys k ++ [(k : Int)]
theorem sl_len (keys : Nat → ByteArray) : ∀ k, (sl keys k).length ≤ k
  | 0 => Nat.le_refl _
  | k + 1 => by
    have := sl_len keys k
    unfold sl
    split
    · omega
    · simp; omega

set_option maxRecDepth 20000 in
set_option maxHeartbeats 4000000 in
theorem Slots_any (w : World) (b : Nat) (t : TB) (h : TAt w b t) (hr : 1 ≤ t.room ∧ t.room ≤ 256) :
    Calls Try.prog 19 #[.pointer (some ⟨b, 0, none⟩)] w fun e w' => ∃ v, e = .returned v ∧ (w'.ownsRow w.heap.size 3 1 v (sl t.keys t.room.toNat).length ((sl t.keys t.room.toNat).map (Value.int .i64)) ∧ Below w.heap.size w w') := by
  have HT := Lib.hid h
  clear h
  obtain ⟨i0, hi, hz0, hz1, hz2⟩ := info_parts infoInt
  obtain ⟨cr, fr⟩ := HT.out.rm
  obtain ⟨n, hn⟩ : ∃ n : Nat, t.room = (n : Int) ∧ n ≤ 256 := ⟨t.room.toNat, by omega, by omega⟩
  have hnn : t.room.toNat = n := by omega
  rw [hnn]
  rw [hn.1] at cr
  have HN := Lib.hid hn.2
  clear hnn hn
  go_enter Try.func19, Try.ntmps19
  go_wp2
  go_loopw [3, 9] (fun v i wr => ∃ k : Nat, k ≤ n ∧ i = .int .i64 k ∧ wr.ownsRow w.heap.size 3 1 v (sl t.keys k).length ((sl t.keys k).map (Value.int .i64)) ∧ TAt wr b t ∧ Below w.heap.size w wr) (fun _ i _ => 300 - (intOf i).toNat)
  case atStart => exact ⟨0, Nat.zero_le _, rfl, World.ownsRow_nil _ _ _ _, HT.out, Below.refl _ _⟩
  case round =>
    obtain ⟨k, hk, rfl, hown, ht, hnx⟩ := hrel
    have TK := Lib.hid ht
    clear ht
    rcases Nat.lt_or_ge k n with hlt | hge
    · have hk1 : (k : Int) < n := by omega
      have hk2 : k < 256 := by have := HN.out; omega
      obtain ⟨ck, fk⟩ := TK.out.key k hk2
      have hsl := sl_len t.keys k
      by_cases hxe : t.keys k = E0
      · have g3 : (t.keys k).toList.isEmpty = true := by rw [hxe]; exact empty_is
        have EK := Lib.hid (show sl t.keys (k + 1) = sl t.keys k by rw [sl, if_pos hxe])
        have OW := Lib.hid hown
        have NX := Lib.hid hnx
        clear hxe hown hnx cr fr
        go_wp2
        go_roundw
        case rel => exact ⟨k + 1, by omega, by go_num, by rw [EK.out]; exact OW.out, TK.out, NX.out⟩
        case measure => simp [intOf]; omega
      · have g3 := ne_empty_is hxe
        have EK := Lib.hid (show sl t.keys (k + 1) = sl t.keys k ++ [(k : Int)] by rw [sl, if_neg hxe])
        have NX := Lib.hid hnx
        clear hxe cr fr
        go_wp2_with (first
          | (at_builtin; refine wpList_append_own _ rfl _ _ 46 rfl w.heap.size 3 i0 (.int .i64 0) 1 8 Try.underlying46 hi hz0 hz1 hz2 rfl (by decide) _ _ _ rfl (hown.alloc _) ⟨wr.heap.size, 0, none⟩ 1 1 [.int .i64 k] rfl rfl ?c1 ?c2 ?c3 ?c4 ?c5 ?_)
          | fail)
        case c1 =>
          intro j u hj
          match j, hj with
          | 0, hj => simp at hj; subst hj; simp [Addr.add]
        case c2 => intro u hu; simp at hu; subst hu; rfl
        case c3 => unfold maxLen; omega
        case c4 => omega
        case c5 => have := NX.out.size; simp; omega
        intro v' w1 hown' hgrow _
        have B1 := Lib.hid ((NX.out.alloc NX.out.size (Obj.cells #[.int .i64 k] 3)).grown hgrow (by have := NX.out.size; simp; omega) (fun k hk => (hown.lt k hk).1))
        have O1 := Lib.hid hown'
        clear hown' hgrow hown
        go_wp2
        go_roundw
        case rel => exact ⟨k + 1, by omega, by go_num, by rw [EK.out, List.map_append, List.length_append]; exact O1.out, HT.out.mono B1.out, B1.out⟩
        case measure => simp [intOf]; omega
    · have hk1 : ¬ (k : Int) < n := by omega
      have hkn : k = n := by omega
      subst hkn
      have OW := Lib.hid hown
      clear hown
      go_wp2
      go_ret
      exact ⟨_, rfl, OW.out, hnx⟩

end Go.Proofs.Ytjlhpnnkhiojfaa.HSlot
