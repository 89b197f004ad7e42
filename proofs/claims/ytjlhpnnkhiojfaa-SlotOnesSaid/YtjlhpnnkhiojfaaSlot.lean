/- The slot table in memory: what its block holds; place, walked. -/
import Derived.Test.YtjlhpnnkhiojfaaSip
import Derived.Deep.QuietTactic
import Derived.Deep.CutBlock
import Derived.Lib.Strings
import Derived.BigQuiet
import Derived.Deep.LoopGhost
import Derived.Laws.OwnMore
namespace Go.Proofs.Ytjlhpnnkhiojfaa.HSlot
set_option linter.unusedVariables false
open Go.RowKit Go.Proofs.Ytjlhpnnkhiojfaa.Print Go.Proofs.Ytjlhpnnkhiojfaa.HSip Go.Proofs.YtjlhpnnkhiojfaaW.PrintWords Go.Proofs.YtjlhpnnkhiojfaaW.PrintLast Go.Proofs.YtjlhpnnkhiojfaaW.PrintMore

structure TB where
  keys : Nat → ByteArray
  idx : Nat → Int
  room : Int
  many : Int
  dead : Int

/-- The block b holds the table. -/
structure TAt (w : World) (b : Nat) (t : TB) : Prop where
  ex : ∃ cs : Array Value, w.heap[b]? = some (.cells cs 57 (0, 0)) ∧ cs.size = 771 ∧ (∀ i, i < 256 → cs[i]? = some (.string (t.keys i))) ∧ (∀ p, p < 512 → cs[256 + p]? = some (.int .i64 (t.idx p))) ∧
    cs[768]? = some (.int .i64 t.room) ∧ cs[769]? = some (.int .i64 t.many) ∧ cs[770]? = some (.int .i64 t.dead)

theorem cell_of {w : World} {b i : Nat} {cs : Array Value} {t : TypeId} {v : Value} (h : w.heap[b]? = some (.cells cs t (0, 0))) (hv : cs[i]? = some v) : w.cell? ⟨b, i, none⟩ = some v ∧ w.frozen? ⟨b, i, none⟩ = false := by
  simp [World.cell?, World.frozen?, h, hv]
theorem TAt.key {w : World} {b : Nat} {t : TB} (h : TAt w b t) (i : Nat) (hi : i < 256) : w.cell? ⟨b, i, none⟩ = some (.string (t.keys i)) ∧ w.frozen? ⟨b, i, none⟩ = false := by
  obtain ⟨cs, h1, h2, h3, h4, h5, h6, h7⟩ := h.ex
  exact cell_of h1 (h3 i hi)
theorem TAt.ix {w : World} {b : Nat} {t : TB} (h : TAt w b t) (p : Nat) (hp : p < 512) : w.cell? ⟨b, 256 + p, none⟩ = some (.int .i64 (t.idx p)) ∧ w.frozen? ⟨b, 256 + p, none⟩ = false := by
  obtain ⟨cs, h1, h2, h3, h4, h5, h6, h7⟩ := h.ex
  exact cell_of h1 (h4 p hp)
theorem TAt.rm {w : World} {b : Nat} {t : TB} (h : TAt w b t) : w.cell? ⟨b, 768, none⟩ = some (.int .i64 t.room) ∧ w.frozen? ⟨b, 768, none⟩ = false := by
  obtain ⟨cs, h1, h2, h3, h4, h5, h6, h7⟩ := h.ex
  exact cell_of h1 h5
theorem TAt.mn {w : World} {b : Nat} {t : TB} (h : TAt w b t) : w.cell? ⟨b, 769, none⟩ = some (.int .i64 t.many) ∧ w.frozen? ⟨b, 769, none⟩ = false := by
  obtain ⟨cs, h1, h2, h3, h4, h5, h6, h7⟩ := h.ex
  exact cell_of h1 h6
theorem TAt.dd {w : World} {b : Nat} {t : TB} (h : TAt w b t) : w.cell? ⟨b, 770, none⟩ = some (.int .i64 t.dead) ∧ w.frozen? ⟨b, 770, none⟩ = false := by
  obtain ⟨cs, h1, h2, h3, h4, h5, h6, h7⟩ := h.ex
  exact cell_of h1 h7
theorem TAt.lt {w : World} {b : Nat} {t : TB} (h : TAt w b t) : b < w.heap.size := by
  obtain ⟨cs, h1, _⟩ := h.ex
  rcases Nat.lt_or_ge b w.heap.size with h' | h'
  · exact h'
  · rw [Array.getElem?_eq_none h'] at h1; cases h1
theorem TAt.mono {w w' : World} {b : Nat} {t : TB} (h : TAt w b t) (hb : Below w.heap.size w w') : TAt w' b t := by
  have hl := h.lt
  obtain ⟨cs, h1, hr⟩ := h.ex
  exact ⟨⟨cs, by rw [hb.block b hl]; exact h1, hr⟩⟩
theorem TAt.drewN {w : World} {b : Nat} {t : TB} (h : TAt w b t) (n : Nat) : TAt (w.drewN n) b t := ⟨h.ex⟩

/-- What place answers: from where on it looks, what it keeps in mind. -/
def fin (at_ may : Int) : Int × Bool := (if may = -1 then at_ else may, false)
def plc (t : TB) (key : ByteArray) : Nat → Nat → Int → Int × Bool
  | 0, at_, may => fin at_ may
  | n + 1, at_, may => if t.idx at_ = 0 then fin at_ may else if t.idx at_ = -1 then plc t key n ((at_ + 1) % 512) (if may = -1 then at_ else may) else if t.keys (t.idx at_ - 1).toNat = key then (at_, true) else plc t key n ((at_ + 1) % 512) may
def start (key : ByteArray) : Nat := sumN 0 0 key.data.toList % 512
def placeT (t : TB) (key : ByteArray) : Int × Bool := plc t key 512 (start key) (-1)
/-- The index holds free, gone, or a slot and one. -/
def Fine (t : TB) : Prop := ∀ p, p < 512 → t.idx p = 0 ∨ t.idx p = -1 ∨ (1 ≤ t.idx p ∧ t.idx p ≤ 256)

set_option maxHeartbeats 2000000 in
set_option maxRecDepth 20000 in
theorem place_any (w : World) (b : Nat) (t : TB) (key : ByteArray) (h : TAt w b t) (hf : Fine t) (hk : key.size ≤ 140737488355328) :
    Calls Try.prog 24 #[.pointer (some ⟨b, 0, none⟩), .string key] w fun e w' => e = .returned (.tuple #[.int .i64 (placeT t key).1, .bool (placeT t key).2]) ∧ Below w.heap.size w w' := by
  have HT := Lib.hid h
  have HF := Lib.hid hf
  clear h hf
  go_enter Try.func24, Try.ntmps24
  have e1 : ((sumN 0 0 key.data.toList : Nat) : Int).tmod 512 = ((start key : Nat) : Int) := by
    rw [Int.tmod_eq_emod_of_nonneg (by omega)]
    unfold start; omega
  have e2 : wrap64 ((start key : Nat) : Int) = ((start key : Nat) : Int) := by unfold wrap64 start; omega
  go_wp2_with fail
  go_step3
  go_wp2_with fail
  refine (Sum_any 0 0 key _ zero_lt zero_lt hk).mono ?_
  rintro e w1 ⟨rfl, hb⟩
  have B1 := Lib.hid hb
  clear hb
  have T1 := Lib.hid (HT.out.mono B1.out)
  have ES := Lib.hid (show start key < 512 from Nat.mod_lt _ (by decide))
  go_wp2_with fail
  go_step3
  go_wp2_with fail
  go_loopw [4, 6, 12] (fun x4 x6 x12 wr => ∃ (k at_ : Nat) (may : Int), k ≤ 512 ∧ at_ < 512 ∧ (may = -1 ∨ (0 ≤ may ∧ may < 512)) ∧ x4 = .int .i64 at_ ∧ x6 = .int .i64 may ∧ x12 = .int .i64 k ∧ plc t key (512 - k) at_ may = placeT t key ∧ wr = w1) (fun _ _ x12 _ => 512 - (intOf x12).toNat)
  case atStart => exact ⟨0, start key, -1, by omega, ES.out, .inl rfl, by rw [e2], rfl, rfl, rfl, rfl⟩
  case round =>
    obtain ⟨k, at_, may, hk, ha, hm, rfl, rfl, rfl, hp, rfl⟩ := hrel
    have HP := Lib.hid hp
    have HM := Lib.hid hm
    clear hp hm e1 e2
    rcases Nat.lt_or_ge k 512 with hlt | hge
    · obtain ⟨d, hd⟩ : ∃ d, 512 - k = d + 1 := ⟨511 - k, by omega⟩
      have HD := Lib.hid hd
      clear hd
      obtain ⟨cx, fx⟩ := T1.out.ix at_ ha
      have hn1 : (((at_ : Int) + 1).tmod 512) = (((at_ + 1) % 512 : Nat) : Int) := by rw [Int.tmod_eq_emod_of_nonneg (by omega)]; omega
      have hk1 : (k : Int) < 512 := by omega
      have hmm : may = -1 ∨ (((may == -1) = false) ∧ may ≠ -1) := by
        rcases HM.out with h | h
        · exact .inl h
        · exact .inr ⟨by rw [beq_eq_false_iff_ne]; omega, by omega⟩
      rcases HF.out at_ ha with h0 | h0 | h0
      · have E := Lib.hid (show placeT t key = fin at_ may by rw [← HP.out, HD.out, plc, if_pos h0])
        rw [h0] at cx
        clear h0 hn1
        rcases hmm with hmm | ⟨hm1, hm2⟩
        · subst hmm
          go_wp2
          go_ret2
          exact ⟨by rw [E.out]; rfl, B1.out⟩
        · have HM2 := Lib.hid hm2
          go_wp2
          try rw [Exit.noGoto_ret]
          go_ret2
          exact ⟨by rw [E.out]; unfold fin; rw [if_neg HM2.out]; rfl, B1.out⟩
      · have hne : ¬ t.idx at_ = 0 := by omega
        rw [h0] at cx
        rcases hmm with hmm | ⟨hm1, hm2⟩
        · have E := Lib.hid (show plc t key d ((at_ + 1) % 512) at_ = placeT t key by rw [← HP.out, HD.out, plc, if_neg hne, if_pos h0, if_pos hmm])
          subst hmm
          clear h0 hne
          go_wp2
          go_roundw
          case rel => exact ⟨k + 1, (at_ + 1) % 512, at_, by omega, Nat.mod_lt _ (by decide), .inr (by omega), by go_num, rfl, by go_num, by rw [show 512 - (k + 1) = d by have := HD.out; omega]; exact E.out, trivial⟩
          case measure => simp [intOf]; omega
        · have E := Lib.hid (show plc t key d ((at_ + 1) % 512) may = placeT t key by rw [← HP.out, HD.out, plc, if_neg hne, if_pos h0, if_neg hm2])
          clear h0 hne
          go_wp2
          go_roundw
          case rel => exact ⟨k + 1, (at_ + 1) % 512, may, by omega, Nat.mod_lt _ (by decide), HM.out, by go_num, rfl, by go_num, by rw [show 512 - (k + 1) = d by have := HD.out; omega]; exact E.out, trivial⟩
          case measure => simp [intOf]; omega
      · obtain ⟨j, hj, hj2⟩ : ∃ j : Nat, t.idx at_ = ((j + 1 : Nat) : Int) ∧ j < 256 := ⟨(t.idx at_ - 1).toNat, by omega, by omega⟩
        obtain ⟨ck, fk⟩ := T1.out.key j hj2
        have hne : ¬ t.idx at_ = 0 := by omega
        have hne2 : ¬ t.idx at_ = -1 := by omega
        have hjn : (t.idx at_ - 1).toNat = j := by omega
        have g1 : (((j + 1 : Nat) : Int) == 0) = false := by rw [beq_eq_false_iff_ne]; omega
        have g2 : (((j + 1 : Nat) : Int) == -1) = false := by rw [beq_eq_false_iff_ne]; omega
        have g3 : wrap64 (((j + 1 : Nat) : Int) - 1) = (j : Int) := by unfold wrap64; omega
        obtain ⟨m, hm⟩ : ∃ m : Int, m = ((j + 1 : Nat) : Int) := ⟨_, rfl⟩
        rw [hj, ← hm] at cx
        rw [← hm] at g1 g2 g3
        by_cases hkey : t.keys j = key
        · have E := Lib.hid (show placeT t key = ((at_ : Int), true) by rw [← HP.out, HD.out, plc, if_neg hne, if_neg hne2, hjn, if_pos hkey])
          have g4 : ((t.keys j).toList == key.toList) = true := by rw [hkey]; simp
          clear hj hne hne2 hjn hm h0 hkey
          go_wp2
          rw [Exit.noGoto_ret]
          go_ret2
          exact ⟨by rw [E.out]; rfl, B1.out⟩
        · have E := Lib.hid (show plc t key d ((at_ + 1) % 512) may = placeT t key by rw [← HP.out, HD.out, plc, if_neg hne, if_neg hne2, hjn, if_neg hkey])
          have g4 : ((t.keys j).toList == key.toList) = false := by
            rw [beq_eq_false_iff_ne]
            intro e
            rw [Lib.toList_data, Lib.toList_data] at e
            exact hkey (ByteArray.ext (Array.toList_inj.1 e))
          clear hj hne hne2 hjn hm h0 hkey
          go_wp2
          go_roundw
          case rel => exact ⟨k + 1, (at_ + 1) % 512, may, by omega, Nat.mod_lt _ (by decide), HM.out, by go_num, rfl, by go_num, by rw [show 512 - (k + 1) = d by have := HD.out; omega]; exact E.out, trivial⟩
          case measure => simp [intOf]; omega
    · have hk5 : k = 512 := by omega
      have E := Lib.hid (show placeT t key = fin at_ may by rw [← HP.out, hk5]; rfl)
      have hk1 : ¬ (k : Int) < 512 := by omega
      have hmm : may = -1 ∨ (((may == -1) = false) ∧ may ≠ -1) := by
        rcases HM.out with h | h
        · exact .inl h
        · exact .inr ⟨by rw [beq_eq_false_iff_ne]; omega, by omega⟩
      rcases hmm with hmm | ⟨hm1, hm2⟩
      · subst hmm
        clear hk5
        go_wp2
        go_ret2
        exact ⟨by rw [E.out]; rfl, B1.out⟩
      · clear hk5
        go_wp2
        go_ret2
        exact ⟨by rw [E.out]; unfold fin; rw [if_neg hm2]; rfl, B1.out⟩

end Go.Proofs.Ytjlhpnnkhiojfaa.HSlot
