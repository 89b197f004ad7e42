/- The slot table: clean, walked. -/
import Derived.Test.YtjlhpnnkhiojfaaSlot4
namespace Go.Proofs.Ytjlhpnnkhiojfaa.HSlot
set_option linter.unusedVariables false
open Go.RowKit Go.Proofs.Ytjlhpnnkhiojfaa.Print Go.Proofs.Ytjlhpnnkhiojfaa.HSip Go.Proofs.YtjlhpnnkhiojfaaW.PrintWords Go.Proofs.YtjlhpnnkhiojfaaW.PrintLast Go.Proofs.YtjlhpnnkhiojfaaW.PrintMore

set_option maxRecDepth 20000 in
set_option maxHeartbeats 2000000 in
theorem clean_any (w : World) (b : Nat) (t : TB) (h : TAt w b t) (hf : Fine t) (hz : Sized t) (hm : 0 ≤ t.many ∧ t.many ≤ 1000) (hd : 0 ≤ t.dead ∧ t.dead ≤ 1000) (hr : 1 ≤ t.room ∧ t.room ≤ 256) :
    Calls Try.prog 25 #[.pointer (some ⟨b, 0, none⟩)] w fun e w' => e = .returned (.tuple #[]) ∧ (TAt w' b (cleanT t) ∧ Upd b w w') := by
  have HT := Lib.hid h
  have HZ := Lib.hid hz
  clear h hf hz
  obtain ⟨c1, f1⟩ := HT.out.mn
  obtain ⟨c2, f2⟩ := HT.out.dd
  have e0 : IntKind.i64.wrap (t.many + t.dead) = t.many + t.dead := by rw [i64_w]; unfold wrap64; omega
  by_cases h : t.many + t.dead < 384
  · have E := Lib.hid (show cleanT t = t by unfold cleanT; rw [if_pos h])
    go_enter Try.func25, Try.ntmps25
    go_wp2
    refine wp_region_quiet_lit (by kernel_rfl) (by kernel_rfl) ?_
    repeat (quiet_step (fail))
    refine wpQuiet_nil ?_
    intro _ hw'
    obtain ⟨nq, rfl⟩ := hw'
    clear c1 f1 c2 f2
    go_wp2
    exact bodyPost_ret (v := .tuple #[]) (by simp [results, Try.results25, go_sem]) rfl ⟨rfl, by rw [E.out]; exact HT.out.drewN nq, Upd.drewN b w nq⟩
  · have E := Lib.hid (show cleanT t = cl (t.free.sd 0) t.room.toNat by unfold cleanT; rw [if_neg h])
    have FF := Lib.hid (show Fine (t.free.sd 0) from fun p hp => .inl rfl)
    have h' : 384 ≤ t.many + t.dead := by omega
    go_enter Try.func25, Try.ntmps25
    go_wp2
    refine wp_region_quiet_lit (by kernel_rfl) (by kernel_rfl) ?_
    repeat (quiet_step (fail))
    refine wpQuiet_nil ?_
    intro _ hw'
    obtain ⟨nq, rfl⟩ := hw'
    clear c1 f1 c2 f2
    obtain ⟨g1, g2, g3⟩ := (HT.out.drewN nq).frees
    have zz := zero512
    obtain ⟨W2, hW2⟩ : ∃ W2, W2 = (w.drewN nq).setCells b 256 Z512.toList := ⟨_, rfl⟩
    obtain ⟨Z, hZ⟩ : ∃ Z, Z = Z512 := ⟨_, rfl⟩
    rw [← hW2] at g1 g2 g3
    have hZs : Z.size = 512 := by rw [hZ]; unfold Z512; rw [Array.size_replicate]
    rw [← hZ] at g1
    simp only [← hZ] at zz
    clear hW2 hZ
    have T2 := Lib.hid g2
    have U2 := Lib.hid ((Upd.drewN b w nq).trans g3)
    clear g2 g3
    obtain ⟨c3, f3⟩ := T2.out.dd
    obtain ⟨c4, f4⟩ := T2.out.rm
    have hroom : t.free.room = t.room := rfl
    rw [hroom] at c4
    obtain ⟨W3, hW3⟩ : ∃ W3, W3 = W2.setCell ⟨b, 770, none⟩ (.int .i64 0) := ⟨_, rfl⟩
    have c5 : W3.cell? ⟨b, 768, none⟩ = some (.int .i64 t.room) := by
      have := ((T2.out.sd 0).rm).1
      rw [← hW3] at this
      exact this
    have T3 := Lib.hid (show TAt W3 b (cl (t.free.sd 0) 0) by rw [hW3]; exact T2.out.sd 0)
    have U3 := Lib.hid (show Upd b w W3 by rw [hW3]; exact U2.out.trans (Upd.set0 b _ _ _))
    obtain ⟨n, hn⟩ : ∃ n : Nat, t.room = (n : Int) ∧ n ≤ 256 := ⟨t.room.toNat, by omega, by omega⟩
    have hnn : t.room.toNat = n := by omega
    rw [hnn] at E
    rw [hn.1] at c4 c5
    have HN := Lib.hid hn.2
    clear hnn hn
    go_wp2_with fail
    rw [← hW3]
    clear hW3 c3 f3 c4 f4 c5 hroom g1 zz hZs e0 h'
    go_loopw [26] (fun i wr => ∃ k : Nat, k ≤ n ∧ i = .int .i64 k ∧ TAt wr b (cl (t.free.sd 0) k) ∧ Upd b w wr) (fun i _ => 256 - (intOf i).toNat)
    case atStart => exact ⟨0, Nat.zero_le _, rfl, T3.out, U3.out⟩
    case round =>
      obtain ⟨k, hk, rfl, ht, hu⟩ := hrel
      have TK := Lib.hid ht
      have UK := Lib.hid hu
      clear ht hu
      have KK := Lib.hid (cl_keys (t.free.sd 0) k)
      rcases Nat.lt_or_ge k n with hlt | hge
      · have hk1 : (k : Int) < n := by omega
        have hk2 : k < 256 := by have := HN.out; omega
        obtain ⟨ck, fk⟩ := TK.out.key k hk2
        obtain ⟨x, hx⟩ : ∃ x, x = (cl (t.free.sd 0) k).keys k := ⟨_, rfl⟩
        rw [← hx] at ck
        by_cases hxe : x = ⟨#[]⟩
        · have g3 : x.toList.isEmpty = true := by rw [hxe, Lib.toList_data]; rfl
          have EK := Lib.hid (show cl (t.free.sd 0) (k + 1) = cl (t.free.sd 0) k by rw [cl, ← hx, if_pos hxe])
          clear hxe hx
          go_wp2
          go_roundw
          case rel => exact ⟨k + 1, by omega, by go_num, by rw [EK.out]; exact TK.out, UK.out⟩
          case measure => simp [intOf]; omega
        · have g3 : x.toList.isEmpty = false := by
            rw [Lib.toList_data]
            cases hl : x.data.toList with
            | nil => exact absurd (ByteArray.ext (Array.toList_inj.1 (by rw [hl]))) hxe
            | cons _ _ => rfl
          have EK := Lib.hid (show cl (t.free.sd 0) (k + 1) = (cl (t.free.sd 0) k).si (pAt (cl (t.free.sd 0) k) x) (k + 1) by rw [cl, ← hx, if_neg hxe])
          have FK := Lib.hid (cl_fine (t.free.sd 0) FF.out k (by omega))
          have hsz : x.size ≤ 140737488355328 := by rw [hx, KK.out.1]; exact HZ.out k hk2
          clear hxe hx
          go_wp2_with fail
          refine (place_any' _ b _ x TK.out FK.out hsz).mono ?_
          rintro e w4 ⟨rfl, hb⟩
          obtain ⟨q, hq⟩ : ∃ q, q = pAt (cl (t.free.sd 0) k) x := ⟨_, rfl⟩
          have hq5 : q < 512 := by rw [hq]; exact pAt_lt _ _
          rw [← hq] at EK ⊢
          have T4 := Lib.hid (TK.out.mono hb)
          have U4 := Lib.hid (UK.out.trans (Upd.of hb))
          clear hb hq ck fk
          obtain ⟨cq, fq⟩ := T4.out.ix q hq5
          have e5 : wrap64 ((k : Int) + 1) = (k : Int) + 1 := by unfold wrap64; omega
          go_wp2
          go_roundw
          case rel => exact ⟨k + 1, by omega, by go_num, by rw [EK.out]; exact T4.out.si q hq5 _, U4.out.trans (Upd.set0 b _ _ _)⟩
          case measure => simp [intOf]; omega
      · have hk1 : ¬ (k : Int) < n := by omega
        have hkn : k = n := by omega
        go_wp2
        go_end0
        exact ⟨rfl, by rw [E.out, ← hkn]; exact TK.out, UK.out⟩

end Go.Proofs.Ytjlhpnnkhiojfaa.HSlot
