/- The slot table: Add, walked. -/
import Derived.Test.YtjlhpnnkhiojfaaSlot5
namespace Go.Proofs.Ytjlhpnnkhiojfaa.HSlot
set_option linter.unusedVariables false
open Go.RowKit Go.Proofs.Ytjlhpnnkhiojfaa.Print Go.Proofs.Ytjlhpnnkhiojfaa.HSip Go.Proofs.YtjlhpnnkhiojfaaW.PrintWords Go.Proofs.YtjlhpnnkhiojfaaW.PrintLast Go.Proofs.YtjlhpnnkhiojfaaW.PrintMore

/-- What Add leaves where a slot s is found. -/
def putT (u : TB) (key : ByteArray) (s : Nat) : TB := (((if u.idx (pAt u key) = -1 then u.sd (u.dead - 1) else u).sk s key).si (pAt u key) (s + 1)).sm (u.many + 1)
def badKey (key : ByteArray) : Prop := key = ⟨#[]⟩ ∨ 4096 < key.size
instance (key : ByteArray) : Decidable (badKey key) := by unfold badKey; infer_instance
/-- What Add leaves, its slot, its error. -/
def addT (t : TB) (key : ByteArray) (s : Nat) : TB × Int × Int :=
  if badKey key then (t, 0, 1) else if pIs (cleanT t) key = true then (cleanT t, 0, 6) else if (cleanT t).many = (cleanT t).room then (cleanT t, 0, 4) else (putT (cleanT t) key s, s, 0)

theorem clean_fine (t : TB) (h : Fine t) (hr : 1 ≤ t.room ∧ t.room ≤ 256) : Fine (cleanT t) := by
  unfold cleanT
  split
  · exact h
  · exact cl_fine _ (fun p hp => .inl rfl) _ (by omega)
theorem clean_same (t : TB) : (cleanT t).keys = t.keys ∧ (cleanT t).room = t.room ∧ (cleanT t).many = t.many ∧ ((cleanT t).dead = t.dead ∨ (cleanT t).dead = 0) := by
  unfold cleanT
  split
  · exact ⟨rfl, rfl, rfl, .inl rfl⟩
  · have := cl_keys (t.free.sd 0) t.room.toNat
    exact ⟨this.1, this.2.1, this.2.2.1, .inr this.2.2.2⟩
theorem ne_empty_is {x : ByteArray} (h : x ≠ ⟨#[]⟩) : x.toList.isEmpty = false := by
  rw [Lib.toList_data]
  cases hl : x.data.toList with
  | nil => exact absurd (ByteArray.ext (Array.toList_inj.1 (by rw [hl]))) h
  | cons _ _ => rfl
theorem empty_is : (⟨#[]⟩ : ByteArray).toList.isEmpty = true := by rw [Lib.toList_data]; rfl

set_option maxRecDepth 20000 in
set_option maxHeartbeats 4000000 in
theorem Add_any (w : World) (b : Nat) (t : TB) (key : ByteArray) (s : Nat) (h : TAt w b t) (hf : Fine t) (hz : Sized t) (hk : key.size ≤ 140737488355328) (hm : 0 ≤ t.many ∧ t.many ≤ 1000) (hd : 0 ≤ t.dead ∧ t.dead ≤ 1000) (hr : 1 ≤ t.room ∧ t.room ≤ 256)
    (hs : t.many = t.room ∨ (s < 256 ∧ t.keys s = ⟨#[]⟩ ∧ ∀ j, j < s → t.keys j ≠ ⟨#[]⟩)) :
    Calls Try.prog 11 #[.pointer (some ⟨b, 0, none⟩), .string key] w fun e w' => e = .returned (.tuple #[.int .i64 (addT t key s).2.1, .int .i64 (addT t key s).2.2]) ∧ (TAt w' b (addT t key s).1 ∧ Upd b w w') := by
  have HT := Lib.hid h
  clear h
  by_cases hb1 : key = ⟨#[]⟩
  · have E := Lib.hid (show addT t key s = (t, 0, 1) by unfold addT; rw [if_pos (.inl hb1)])
    have g3 : key.toList.isEmpty = true := by rw [hb1]; exact empty_is
    clear hb1
    go_enter Try.func11, Try.ntmps11
    go_wp2
    go_ret2
    exact ⟨by rw [E.out]; rfl, by rw [E.out]; exact HT.out, Upd.refl _ _⟩
  · have g3 := ne_empty_is hb1
    by_cases hb2 : 4096 < key.size
    · have E := Lib.hid (show addT t key s = (t, 0, 1) by unfold addT; rw [if_pos (.inr hb2)])
      have g4 : (4096 : Int) < key.size := by omega
      clear hb1 hb2
      go_enter Try.func11, Try.ntmps11
      go_wp2
      go_ret2
      exact ⟨by rw [E.out]; rfl, by rw [E.out]; exact HT.out, Upd.refl _ _⟩
    · have hbk : ¬ badKey key := fun h => h.elim hb1 hb2
      have g4 : ¬ (4096 : Int) < key.size := by omega
      obtain ⟨u, hu⟩ : ∃ u, u = cleanT t := ⟨_, rfl⟩
      have hfu : Fine u := by rw [hu]; exact clean_fine t hf hr
      have hsm := clean_same t
      rw [← hu] at hsm
      obtain ⟨q, hq⟩ : ∃ q, q = pAt u key := ⟨_, rfl⟩
      have hq5 : q < 512 := by rw [hq]; exact pAt_lt _ _
      have HC := Lib.hid (clean_any w b t HT.out hf hz hm hd hr)
      rw [← hu] at HC
      have HSM := Lib.hid hsm
      have HQ := Lib.hid hq
      have HU := Lib.hid hu
      have HS := Lib.hid hs
      have HFU := Lib.hid hfu
      have HBK := Lib.hid hbk
      clear hb1 hb2 hu hsm hq hs hz hbk
      go_enter Try.func11, Try.ntmps11
      go_wp2_with fail
      refine HC.out.mono ?_
      rintro e w1 ⟨rfl, t1, u1⟩
      have T1 := Lib.hid t1
      have U1 := Lib.hid u1
      clear t1 u1
      go_wp2_with fail
      refine (place_any' w1 b u key T1.out hfu hk).mono ?_
      rintro e w2 ⟨rfl, hb⟩
      rw [← HQ.out]
      have T2 := Lib.hid (T1.out.mono hb)
      have U2 := Lib.hid (U1.out.trans (Upd.of hb))
      clear hb hfu hf
      by_cases hp : pIs u key = true
      · have E := Lib.hid (show addT t key s = (u, 0, 6) by unfold addT; rw [if_neg HBK.out, ← HU.out, if_pos hp])
        rw [hp]
        clear hp
        go_wp2
        go_ret2
        exact ⟨by rw [E.out]; rfl, by rw [E.out]; exact T2.out, U2.out⟩
      · have hp' : pIs u key = false := by simpa using hp
        have HP := Lib.hid hp
        rw [hp']
        clear hp hp'
        obtain ⟨c1, f1⟩ := T2.out.mn
        obtain ⟨c2, f2⟩ := T2.out.rm
        obtain ⟨c3, f3⟩ := T2.out.ix q hq5
        by_cases hmr : u.many = u.room
        · have E := Lib.hid (show addT t key s = (u, 0, 4) by unfold addT; rw [if_neg HBK.out, ← HU.out, if_neg HP.out, if_pos hmr])
          rw [← hmr] at c2
          clear hmr
          -- GEN
          go_wp2
          refine wp_region_quiet_lit (by kernel_rfl) (by kernel_rfl) ?_
          repeat (quiet_step (fail))
          refine wpQuiet_nil ?_
          intro _ hw'
          obtain ⟨nq, rfl⟩ := hw'
          clear c1 f1 c2 f2 c3 f3
          go_wp2
          try rw [Exit.inBlock_ret]
          go_ret2
          exact ⟨by rw [E.out]; rfl, by rw [E.out]; exact T2.out.drewN nq, U2.out.trans (Upd.drewN b _ nq)⟩
        · have hs' : s < 256 ∧ t.keys s = ⟨#[]⟩ ∧ ∀ j, j < s → t.keys j ≠ ⟨#[]⟩ := by
            rcases HS.out with h | h
            · exact absurd (HSM.out.2.2.1.trans (h.trans HSM.out.2.1.symm)) hmr
            · exact h
          have hs6 := hs'.1
          have FR := Lib.hid (show u.keys s = ⟨#[]⟩ ∧ ∀ j, j < s → u.keys j ≠ ⟨#[]⟩ by rw [HSM.out.1]; exact hs'.2)
          have E := Lib.hid (show addT t key s = (putT u key s, (s : Int), 0) by unfold addT; rw [if_neg HBK.out, ← HU.out, if_neg HP.out, if_neg hmr])
          have g6 : (u.many == u.room) = false := by rw [beq_eq_false_iff_ne]; exact hmr
          have hum : 0 ≤ u.many ∧ u.many ≤ 1000 := by rw [HSM.out.2.2.1]; exact hm
          have hud : 0 ≤ u.dead ∧ u.dead ≤ 1000 := by
            rcases HSM.out.2.2.2 with h | h
            · rw [h]; exact hd
            · rw [h]; omega
          clear hs' hm hd hr
          go_wp2
          refine wp_region_quiet_lit (by kernel_rfl) (by kernel_rfl) ?_
          repeat (quiet_step (fail))
          refine wpQuiet_nil ?_
          intro _ hw'
          obtain ⟨nq, rfl⟩ := hw'
          have T3 := Lib.hid (T2.out.drewN nq)
          have U3 := Lib.hid (U2.out.trans (Upd.drewN b _ nq))
          obtain ⟨W3, hW3⟩ : ∃ W3, W3 = w2.drewN nq := ⟨_, rfl⟩
          rw [← hW3] at T3 U3 ⊢
          clear c1 f1 c2 f2 c3 f3 hmr hW3
          obtain ⟨c3, f3⟩ := T3.out.ix q hq5
          obtain ⟨c4, f4⟩ := T3.out.dd
          by_cases hg : u.idx q = -1
          · have EP := Lib.hid (show putT u key s = (((u.sd (u.dead - 1)).sk s key).si q (s + 1)).sm (u.many + 1) by unfold putT; rw [← HQ.out, if_pos hg])
            have e6 : wrap64 (u.dead - 1) = u.dead - 1 := by unfold wrap64; omega
            rw [hg] at c3
            obtain ⟨v, hv⟩ : ∃ v, v = u.sd (u.dead - 1) := ⟨_, rfl⟩
            obtain ⟨W5, hW5⟩ : ∃ W5, W5 = W3.setCell ⟨b, 770, none⟩ (.int .i64 (u.dead - 1)) := ⟨_, rfl⟩
            have T5 := Lib.hid (show TAt W5 b v by rw [hW5, hv]; exact T3.out.sd _)
            have U5 := Lib.hid (show Upd b w W5 by rw [hW5]; exact U3.out.trans (Upd.set0 b _ _ _))
            have VK := Lib.hid (show v.keys = u.keys by rw [hv]; rfl)
            have VM := Lib.hid (show v.many = u.many by rw [hv]; rfl)
            rw [← hv] at EP
            clear hg hv
            go_wp2_with fail
            rw [← hW5]
            clear hW5 c3 f3 c4 f4
            go_wp2_with fail
            go_loopw [8] (fun i wr => ∃ k : Nat, k ≤ s ∧ i = .int .i64 k ∧ wr = W5) (fun i _ => 300 - (intOf i).toNat)
            case atStart => exact ⟨0, Nat.zero_le _, rfl, rfl⟩
            case round =>
              obtain ⟨k, hk5, rfl, rfl⟩ := hrel
              rcases Nat.lt_or_ge k s with hlt | hge
              · obtain ⟨ck, fk⟩ := T5.out.key k (by omega)
                have g5 := ne_empty_is (FR.out.2 k hlt)
                have hk6 : (k : Int) < 256 := by omega
                rw [VK.out] at ck
                go_wp2
                go_roundw
                case rel => exact ⟨k + 1, by omega, by go_num, trivial⟩
                case measure => simp [intOf]; omega
              · have hks : k = s := by omega
                subst hks
                obtain ⟨ck, fk⟩ := T5.out.key k hs6
                obtain ⟨cq, fq⟩ := T5.out.ix q hq5
                rw [VK.out, FR.out.1] at ck
                have g5 := empty_is
                have e5 : wrap64 ((k : Int) + 1) = (k : Int) + 1 := by unfold wrap64; omega
                go_wp2
                go_region
                obtain ⟨W6, hW⟩ : ∃ W6, W6 = ((wr.setCell ⟨b, k, none⟩ (.string key)).setCell ⟨b, 256 + q, none⟩ (.int .i64 (k + 1))).drew := ⟨_, rfl⟩
                have T6 := Lib.hid (show TAt W6 b ((v.sk k key).si q (k + 1)) by rw [hW]; exact ⟨((T5.out.sk k hs6 key).si q hq5 (k + 1)).ex⟩)
                have U6 := Lib.hid (show Upd b w W6 by
                  rw [hW]
                  exact (U5.out.trans ((Upd.set0 b _ _ _).trans (Upd.set0 b _ _ _))).trans (Upd.drewN b _ 1))
                rw [← hW]
                clear hW ck fk cq fq
                obtain ⟨cm, fm⟩ := T6.out.mn
                have hvm : ((v.sk k key).si q (k + 1)).many = u.many := VM.out
                rw [hvm] at cm
                have e7 : wrap64 (u.many + 1) = u.many + 1 := by unfold wrap64; omega
                go_wp2
                go_ret2
                refine ⟨by rw [E.out]; rfl, ?_, U6.out.trans (Upd.set0 b _ _ _)⟩
                rw [E.out, EP.out]
                exact T6.out.sm _
          · have EP := Lib.hid (show putT u key s = ((u.sk s key).si q (s + 1)).sm (u.many + 1) by unfold putT; rw [← HQ.out, if_neg hg])
            have g7 : (u.idx q == -1) = false := by rw [beq_eq_false_iff_ne]; exact hg
            have e6 : (1 : Int) = 1 := rfl
            obtain ⟨v, hv⟩ : ∃ v, v = u := ⟨_, rfl⟩
            obtain ⟨W5, hW5⟩ : ∃ W5, W5 = W3 := ⟨_, rfl⟩
            have T5 := Lib.hid (show TAt W5 b v by rw [hW5, hv]; exact T3.out)
            have U5 := Lib.hid (show Upd b w W5 by rw [hW5]; exact U3.out)
            have VK := Lib.hid (show v.keys = u.keys by rw [hv])
            have VM := Lib.hid (show v.many = u.many by rw [hv])
            have EP := Lib.hid (show putT u key s = ((v.sk s key).si q (s + 1)).sm (u.many + 1) by rw [hv]; exact EP.out)
            have c5 := c3
            rw [← hW5] at c5
            go_wp2_with fail
            rw [← hW5]
            clear hg hv hW5 c3 f3 c4 f4
            go_wp2_with fail
            go_loopw [8] (fun i wr => ∃ k : Nat, k ≤ s ∧ i = .int .i64 k ∧ wr = W5) (fun i _ => 300 - (intOf i).toNat)
            case atStart => exact ⟨0, Nat.zero_le _, rfl, rfl⟩
            case round =>
              obtain ⟨k, hk5, rfl, rfl⟩ := hrel
              rcases Nat.lt_or_ge k s with hlt | hge
              · obtain ⟨ck, fk⟩ := T5.out.key k (by omega)
                have g5 := ne_empty_is (FR.out.2 k hlt)
                have hk6 : (k : Int) < 256 := by omega
                rw [VK.out] at ck
                go_wp2
                go_roundw
                case rel => exact ⟨k + 1, by omega, by go_num, trivial⟩
                case measure => simp [intOf]; omega
              · have hks : k = s := by omega
                subst hks
                obtain ⟨ck, fk⟩ := T5.out.key k hs6
                obtain ⟨cq, fq⟩ := T5.out.ix q hq5
                rw [VK.out, FR.out.1] at ck
                have g5 := empty_is
                have e5 : wrap64 ((k : Int) + 1) = (k : Int) + 1 := by unfold wrap64; omega
                go_wp2
                go_region
                obtain ⟨W6, hW⟩ : ∃ W6, W6 = ((wr.setCell ⟨b, k, none⟩ (.string key)).setCell ⟨b, 256 + q, none⟩ (.int .i64 (k + 1))).drew := ⟨_, rfl⟩
                have T6 := Lib.hid (show TAt W6 b ((v.sk k key).si q (k + 1)) by rw [hW]; exact ⟨((T5.out.sk k hs6 key).si q hq5 (k + 1)).ex⟩)
                have U6 := Lib.hid (show Upd b w W6 by
                  rw [hW]
                  exact (U5.out.trans ((Upd.set0 b _ _ _).trans (Upd.set0 b _ _ _))).trans (Upd.drewN b _ 1))
                rw [← hW]
                clear hW ck fk cq fq
                obtain ⟨cm, fm⟩ := T6.out.mn
                have hvm : ((v.sk k key).si q (k + 1)).many = u.many := VM.out
                rw [hvm] at cm
                have e7 : wrap64 (u.many + 1) = u.many + 1 := by unfold wrap64; omega
                go_wp2
                go_ret2
                refine ⟨by rw [E.out]; rfl, ?_, U6.out.trans (Upd.set0 b _ _ _)⟩
                rw [E.out, EP.out]
                exact T6.out.sm _

end Go.Proofs.Ytjlhpnnkhiojfaa.HSlot
