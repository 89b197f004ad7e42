/- Histograms: Get, walked. -/
import Derived.Test.YtgafnilcmhjpcaaHist7
import Derived.Deep.RegionWith
import Derived.Deep.CutBlock
import Derived.Deep.DeepCutAuto
import Derived.Lib.Strings
import Derived.Lib.IndexBytes
namespace Go.Proofs.Ytgafnilcmhjpcaa.HHist
set_option linter.unusedVariables false
open Go.RowKit Go.Proofs.Ytgafnilcmhjpcaa.HMem Go.Proofs.Ytgafnilcmhjpcaa.HBucket
open Go.Proofs.Ytgafnilcmhjpcaa.Print (I64)

def itAt (s : List UInt8) : Int := (num (s.take 4) : Int) - 2147483648
def itMany (s : List UInt8) : Nat := num ((s.drop 4).take 6)
/-- May the item that bytes begin with be? -/
def itOk (b : Nat) (s : List UInt8) (last : Int) (acc : IL) : Bool :=
  decide (-(mostN b : Int) - 1 ≤ itAt s ∧ itAt s ≤ mostN b) && decide (itMany s ≠ 0) && decide (last < itAt s) && decide (itMany s ≤ 1099511627776 - total acc)
/-- So many items off the front of bytes. -/
def decI (b : Nat) : Nat → List UInt8 → Int → IL → Option (IL × List UInt8)
  | 0, s, _, acc => some (acc, s)
  | k + 1, s, last, acc => if itOk b s last acc = true then decI b k (s.drop 10) (itAt s) (moreL acc (itAt s) (itMany s)) else none
/-- The histogram that bytes begin with: its bits, its items, what stands behind it. -/
def decL (s : List UInt8) : Option (Nat × IL × List UInt8) :=
  if s.length < 3 then none else if 4 < num (s.take 1) then none else if s.length < 3 + 10 * num ((s.drop 1).take 2) then none else
    (decI (num (s.take 1)) (num ((s.drop 1).take 2)) (s.drop 3) (-2147483649) []).map fun x => (num (s.take 1), x)

/-- What Get answers. -/
def GetRes (w : World) (b : Nat) (r : Option (IL × List UInt8)) (e : Ending) (w' : World) : Prop :=
  (r = none ∧ e = .returned (.tuple #[.pointer none, .string ⟨#[]⟩, .int .i64 2]) ∧ Below w.heap.size w w') ∨
  ∃ (l : IL) (s : ByteArray) (p : Nat) (G : List Nat), r = some (l, s.data.toList) ∧ e = .returned (.tuple #[.pointer (some ⟨p, 0, none⟩), .string s, .int .i64 0]) ∧ HistAt w' p G b l ∧ HOk b l ∧ (∀ g ∈ G, w.heap.size ≤ g) ∧ Below w.heap.size w w'
theorem num_two (l : List UInt8) (k : Nat) : num (l.take k) < 256 ^ k :=
  Nat.lt_of_lt_of_le (num_lt _) (Nat.pow_le_pow_right (by decide) (List.length_take_le _ _))
theorem ext_size (s : ByteArray) (a b : Nat) (h : b ≤ s.size) (h2 : a ≤ b) : (s.extract a b).size = b - a := by
  rw [← ByteArray.size_data, ← Array.length_toList, Lib.extract_data, List.length_take, List.length_drop, Array.length_toList, ByteArray.size_data]; omega
/-- An item's variable. -/
def ItVar (wr : World) (a : Int) (m : Nat) (x : Value) (w' : World) : Prop :=
  ∃ X, x = .pointer (some ⟨X, 0, none⟩) ∧ wr.heap.size ≤ X ∧ w'.heap[X]? = some (.cells #[.int .i64 a, .int .u64 m] 105 (0, 0)) ∧ Below wr.heap.size wr w'
set_option maxHeartbeats 2000000 in
set_option maxRecDepth 20000 in
theorem Get_walk (s : ByteArray) (w : World) (hs : s.size ≤ 140737488355328) (b : Nat) (hb : b ≤ 4) (h3 : 3 ≤ s.size) (hb0 : num (s.data.toList.take 1) = b) (hlen : 3 + 10 * num ((s.data.toList.drop 1).take 2) ≤ s.size) :
    Calls Try.prog 68 #[.string s] w (GetRes w b (decI b (num ((s.data.toList.drop 1).take 2)) (s.data.toList.drop 3) (-2147483649) [])) := by
  have h3' : (3 : Int) ≤ s.size := by omega
  have t0 : decide ((s.size : Int) < 3) = false := by simp; omega
  have e0 : wrap64 (((s[0]'(by omega)).toNat : Nat) : Int) = (b : Int) := by
    have : num (s.data.toList.take 1) = (s[0]'(by omega)).toNat := by
      rw [take_byte s 0 (by omega)]; simp [num]
    rw [← hb0, this]; unfold wrap64; have := (s[0]'(by omega)).toNat_lt; omega
  go_enter Try.func68, Try.ntmps68
  go_wp2_with fail
  go_step3
  go_wp2_with fail
  rw [e0]
  refine (New_yes b w hb).mono ?_
  rintro e w1 ⟨rfl, h1, b1⟩
  obtain ⟨p, hp⟩ : ∃ p, p = w.heap.size := ⟨_, rfl⟩
  rw [← hp] at h1 ⊢
  have H1 := Lib.hid h1
  have B1 := Lib.hid b1
  have HP := Lib.hid hp
  clear h1 b1 hp
  go_wp2_with fail
  have e1 : (s.extract 1 3).data.toList = (s.data.toList.drop 1).take 2 := by rw [Lib.extract_data]
  have KG := get_any (s.extract 1 3) w1 (by rw [ext_size _ _ _ (by omega) (by omega)]; omega)
  rw [e1] at KG
  obtain ⟨m, hm⟩ : ∃ m, m = num ((s.data.toList.drop 1).take 2) := ⟨_, rfl⟩
  rw [← hm] at KG hlen
  have hm2 : m < 65536 := by
    have := num_lt ((s.data.toList.drop 1).take 2)
    have h2 : ((s.data.toList.drop 1).take 2).length ≤ 2 := List.length_take_le _ _
    rw [hm]
    exact Nat.lt_of_lt_of_le this (Nat.le_trans (Nat.pow_le_pow_right (by decide) h2) (by decide))
  refine KG.mono ?_
  rintro e w2 ⟨rfl, rfl⟩
  have HM := Lib.hid hm
  clear KG hm e1 e0
  have t1 : decide (((s.size - 3 : Nat) : Int) < 10 * (m : Int)) = false := by simp; omega
  go_wp2_with fail
  go_step3
  obtain ⟨S, hS⟩ : ∃ S, S = s.extract 3 s.size := ⟨_, rfl⟩
  have hSs : S.size = s.size - 3 := by rw [hS, ext_size _ _ _ (Nat.le_refl _) (by omega)]
  have hSl : S.data.toList = s.data.toList.drop 3 := by rw [hS, Lib.extract_to_end]
  rw [← hS]
  obtain ⟨RES, hR⟩ : ∃ RES, RES = decI b m S.data.toList (-2147483649) [] := ⟨_, rfl⟩
  have HR := Lib.hid hR.symm
  have HRR := Lib.hid (show decI b (num ((s.data.toList.drop 1).take 2)) (s.data.toList.drop 3) (-2147483649) [] = RES by rw [hR, hSl, HM.out])
  have HS1 := Lib.hid (show 10 * m ≤ S.size ∧ S.size ≤ 140737488355328 by omega)
  clear hR hS hSl hSs
  go_wp2_with fail
  go_loopw [0, 7, 8] (fun u x y wr => ∃ (k : Nat) (S' : ByteArray) (last : Int) (acc : IL) (G : List Nat), u = .string S' ∧ x = .int .i64 k ∧ y = .int .i64 last ∧ k ≤ 65535 ∧ 10 * k ≤ S'.size ∧ S'.size ≤ 140737488355328 ∧ decI b k S'.data.toList last acc = RES ∧ HistAt wr p G b acc ∧ HOk b acc ∧ (∀ g ∈ G, w.heap.size ≤ g) ∧ Below w.heap.size w wr) (fun _ x _ _ => (intOf x).toNat)
  case atStart => exact ⟨m, S, _, [], [p], rfl, rfl, rfl, by omega, HS1.out.1, HS1.out.2, HR.out, H1.out, HOk.nil hb, by simp [HP.out], B1.out⟩
  case round =>
    obtain ⟨k, S', last, acc, G, rfl, rfl, rfl, hk, hk2, hs2, hd, hh, ho, hg, bb⟩ := hrel
    have HD := Lib.hid hd
    have HH := Lib.hid hh
    have HO := Lib.hid ho
    have HG := Lib.hid hg
    have BB := Lib.hid bb
    clear hd hh ho hg bb
    cases k with
    | zero =>
      go_wp2
      rw [Exit.noGoto_ret]
      go_ret3
      exact .inr ⟨acc, S', p, G, by rw [HRR.out, ← HD.out]; rfl, rfl, HH.out, HO.out, HG.out, BB.out⟩
    | succ k =>
      have t2 : (0 : Int) < ((k + 1 : Nat) : Int) := by omega
      have e2 := Lib.extract_data S' 0 4
      have e3 := Lib.extract_data S' 4 10
      have n1 := num_two S'.data.toList 4
      have n2 := num_two (S'.data.toList.drop 4) 6
      obtain ⟨a, ha⟩ : ∃ a, a = itAt S'.data.toList := ⟨_, rfl⟩
      obtain ⟨q, hq⟩ : ∃ q, q = itMany S'.data.toList := ⟨_, rfl⟩
      obtain ⟨z, hz⟩ : ∃ z, z = num (S'.data.toList.take 4) := ⟨_, rfl⟩
      have K1 := Lib.hid (show ∀ u : World, Calls Try.prog 86 #[.string (S'.extract 0 4)] u fun e w' => e = .returned (.int .u64 z) ∧ u = w' from fun u => by
        have := get_any (S'.extract 0 4) u (by rw [ext_size _ _ _ (by omega) (by omega)]; omega)
        rw [e2, List.drop_zero, Nat.sub_zero, ← hz] at this
        exact this)
      have K2 := Lib.hid (show ∀ u : World, Calls Try.prog 86 #[.string (S'.extract 4 10)] u fun e w' => e = .returned (.int .u64 q) ∧ u = w' from fun u => by
        have := get_any (S'.extract 4 10) u (by rw [ext_size _ _ _ (by omega) (by omega)]; omega)
        rw [e3, show 10 - 4 = 6 by omega] at this
        rw [hq]
        exact this)
      have hza : (z : Int) - 2147483648 = a := by rw [ha, hz]; rfl
      rw [← hz] at n1
      have hz4 : z < 4294967296 := by omega
      have s1 : IntKind.i64.wrap (z : Int) = (z : Int) := by rw [IntKind.wrap_i64]; omega
      have s2 : IntKind.i64.wrap ((z : Int) - 2147483648) = a := by rw [IntKind.wrap_i64]; omega
      have HA := Lib.hid ha
      have HQ := Lib.hid hq
      have hq6 : q < 281474976710656 := by rw [hq]; exact n2
      have ha4 : -2147483648 ≤ a ∧ a < 2147483648 := by omega
      have g4 : (4 : Int) ≤ (S'.size : Int) := by omega
      have g10 : (10 : Int) ≤ (S'.size : Int) := by omega
      clear e2 e3 n1 n2 ha hq hz hza
      go_wp2_with fail
      go_cut [9] (fun x w' => ItVar wr a q x w')
      case first =>
        go_region_with (first
          | (go_at_call 86; with_reducible refine Calls.mono (K1.out _) ?_; rintro e w3 ⟨rfl, rfl⟩)
          | (go_at_call 86; with_reducible refine Calls.mono (K2.out _) ?_; rintro e w3 ⟨rfl, rfl⟩))
        all_goals
          go_wp2_with fail
          go_meet
          case rel => exact ⟨_, rfl, Nat.le_refl _, heap_alloc_new wr _, ((Below.refl _ _).alloc (Nat.le_refl _) _).drew⟩
      case rest =>
        obtain ⟨X, rfl, hX, hxc, hxb⟩ := hcut
        clear K1 K2 s1 s2
        have H2 := Lib.hid (HH.out.mono hxb)
        obtain ⟨p0, p2, _⟩ := H2.out.cells
        have x0 : wc.cell? ⟨X, 0, none⟩ = some (.int .i64 a) := by simp [World.cell?, hxc]
        have x1 : wc.cell? ⟨X, 1, none⟩ = some (.int .u64 q) := by simp [World.cell?, hxc]
        have B2 := Lib.hid (BB.out.trans (hxb.mono BB.out.size))
        obtain ⟨lo, hlo⟩ : ∃ lo : Int × Int, lo = if -(mostN b : Int) - 1 ≤ a ∧ a ≤ mostN b then (loZ b a, hiZ b a) else (0, 0) := ⟨_, rfl⟩
        obtain ⟨ok, hok⟩ : ∃ ok : Bool, ok = decide (-(mostN b : Int) - 1 ≤ a ∧ a ≤ mostN b) := ⟨_, rfl⟩
        have KB := Lib.hid (show ∀ v, Below wc.heap.size wc v → Calls Try.prog 87 #[.int .i64 b, .int .i64 a] v fun e w' => e = .returned (.tuple #[.int .i64 lo.1, .int .i64 lo.2, .bool ok]) ∧ Below v.heap.size v w' from fun v _ => by
          refine Go.Proofs.Ytgafnilcmhjpcaa.Print.bucket_Bounds.calls _ _ _ _ _ v ?_
          unfold Go.Proofs.Ytgafnilcmhjpcaa.Print.bucket_Bounds.f
          rw [Int.toNat_natCast, if_pos (by omega), hlo, hok]
          split <;> rename_i hh
          · rw [decide_eq_true hh]
          · rw [decide_eq_false hh])
        have hTT := HO.out.total
        obtain ⟨T, hT⟩ : ∃ T, T = total acc := ⟨_, rfl⟩
        rw [← hT] at p2 hTT
        have EOK := Lib.hid (show itOk b S'.data.toList last acc = (ok && decide (q ≠ 0) && decide (last < a) && decide (q ≤ 1099511627776 - T)) by rw [hok, hT, HA.out, HQ.out]; rfl)
        have EST := Lib.hid (show itOk b S'.data.toList last acc = true → (1 ≤ q ∧ -(mostN b : Int) - 1 ≤ a ∧ a ≤ mostN b ∧ last < a ∧ total acc + q ≤ 1099511627776) from fun h => by
          rw [EOK.out, hok] at h
          simp only [Bool.and_eq_true, decide_eq_true_eq] at h
          omega)
        have HT := Lib.hid hT
        clear hlo hok hxb hxc hT
        go_wp2_with fail
        refine wp_region_quiet (C := fun w' => Below wc.heap.size wc w') (by kernel_rfl) (by kernel_rfl) ((Below.refl _ _).drew) ?_
        repeat (
          with_reducible refine wpQuiet_step (fun K hK => ?_)
          go_simp
          first
            | (with_reducible refine hK _ ?_; clear hK K)
            | (refine hK _ ?_; clear hK K)
            | (apply Exists.intro
               refine ⟨fun v hv => ?_, hK _ ?_⟩
               (first
                 | with_reducible rfl
                 | (with_reducible show Calls _ _ _ _ _
                    first
                      | with_reducible refine Calls.mono (KB.out _ hv) ?_
                    rintro e w' ⟨rfl, hb⟩
                    exact ⟨rfl, hv.trans (hb.mono hv.size)⟩)
                 | (have d0 := (hv.cell (World.block_lt_of_cell? _ _ p0)).trans p0
                    have d1 := (hv.cell (World.block_lt_of_cell? _ _ x0)).trans x0
                    go_simp
                    with_reducible rfl))
               clear hK K))
        refine wpQuiet_nil ?_
        intro wf hk
        replace p0 := (hk.cell (World.block_lt_of_cell? _ _ p0)).trans p0
        replace p2 := (hk.cell (World.block_lt_of_cell? _ _ p2)).trans p2
        replace x0 := (hk.cell (World.block_lt_of_cell? _ _ x0)).trans x0
        replace x1 := (hk.cell (World.block_lt_of_cell? _ _ x1)).trans x1
        have H3 := Lib.hid (H2.out.mono hk)
        have B3 := Lib.hid (B2.out.trans (hk.mono B2.out.size))
        clear hk KB
        go_wp2_with fail
        have s4 : IntKind.u64.wrap (1099511627776 - (T : Int)) = 1099511627776 - (T : Int) := u64_in _ (by omega) (by omega)
        go_cut [62] (fun v w' => v = .bool (!(itOk b S'.data.toList last acc)) ∧ Below wf.heap.size wf w')
        case first =>
          cases ok
          rotate_left
          by_cases c1 : q = 0
          rotate_left
          by_cases c2 : last < a
          by_cases c3 : q ≤ 1099511627776 - T
          · have EF : (!(itOk b S'.data.toList last acc)) = false := by rw [EOK.out]; simp; omega
            have r1 : (((q : Nat) : Int) == 0) = false := by rw [beq_eq_false_iff_ne]; omega
            have r2 : decide (a ≤ last) = false := by simp; omega
            have r3 : decide (1099511627776 - (T : Int) < (q : Int)) = false := by simp; omega
            clear c1 c2 c3
            refine wp_region_quiet (C := fun w' => Below wf.heap.size wf w') (by kernel_rfl) (by kernel_rfl) ((Below.refl _ _).drew) ?_
            repeat (
              with_reducible refine wpQuiet_step (fun K hK => ?_)
              go_simp
              first
                | (with_reducible refine hK _ ?_; clear hK K)
                | (refine hK _ ?_; clear hK K)
                | (apply Exists.intro
                   refine ⟨fun v hv => ?_, hK _ ?_⟩
                   (first
                     | with_reducible rfl
                     | (have d0 := (hv.cell (World.block_lt_of_cell? _ _ x0)).trans x0
                        have d1 := (hv.cell (World.block_lt_of_cell? _ _ x1)).trans x1
                        have d2 := (hv.cell (World.block_lt_of_cell? _ _ p2)).trans p2
                        go_simp
                        with_reducible rfl))
                   clear hK K))
            refine wpQuiet_nil ?_
            intro wg hg
            go_wp2_with fail
            go_meet
            case rel => exact ⟨by rw [EF], hg⟩
          · have EF : (!(itOk b S'.data.toList last acc)) = true := by rw [EOK.out]; simp; omega
            have r1 : (((q : Nat) : Int) == 0) = false := by rw [beq_eq_false_iff_ne]; omega
            have r2 : decide (a ≤ last) = false := by simp; omega
            have r3 : decide (1099511627776 - (T : Int) < (q : Int)) = true := by simp; omega
            clear c1 c2 c3
            refine wp_region_quiet (C := fun w' => Below wf.heap.size wf w') (by kernel_rfl) (by kernel_rfl) ((Below.refl _ _).drew) ?_
            repeat (
              with_reducible refine wpQuiet_step (fun K hK => ?_)
              go_simp
              first
                | (with_reducible refine hK _ ?_; clear hK K)
                | (refine hK _ ?_; clear hK K)
                | (apply Exists.intro
                   refine ⟨fun v hv => ?_, hK _ ?_⟩
                   (first
                     | with_reducible rfl
                     | (have d0 := (hv.cell (World.block_lt_of_cell? _ _ x0)).trans x0
                        have d1 := (hv.cell (World.block_lt_of_cell? _ _ x1)).trans x1
                        have d2 := (hv.cell (World.block_lt_of_cell? _ _ p2)).trans p2
                        go_simp
                        with_reducible rfl))
                   clear hK K))
            refine wpQuiet_nil ?_
            intro wg hg
            go_wp2_with fail
            go_meet
            case rel => exact ⟨by rw [EF], hg⟩
          · have EF : (!(itOk b S'.data.toList last acc)) = true := by rw [EOK.out]; simp; omega
            have r1 : (((q : Nat) : Int) == 0) = false := by rw [beq_eq_false_iff_ne]; omega
            have r2 : decide (a ≤ last) = true := by simp; omega
            clear c1 c2
            refine wp_region_quiet (C := fun w' => Below wf.heap.size wf w') (by kernel_rfl) (by kernel_rfl) ((Below.refl _ _).drew) ?_
            repeat (
              with_reducible refine wpQuiet_step (fun K hK => ?_)
              go_simp
              first
                | (with_reducible refine hK _ ?_; clear hK K)
                | (refine hK _ ?_; clear hK K)
                | (apply Exists.intro
                   refine ⟨fun v hv => ?_, hK _ ?_⟩
                   (first
                     | with_reducible rfl
                     | (have d0 := (hv.cell (World.block_lt_of_cell? _ _ x0)).trans x0
                        have d1 := (hv.cell (World.block_lt_of_cell? _ _ x1)).trans x1
                        have d2 := (hv.cell (World.block_lt_of_cell? _ _ p2)).trans p2
                        go_simp
                        with_reducible rfl))
                   clear hK K))
            refine wpQuiet_nil ?_
            intro wg hg
            go_wp2_with fail
            go_meet
            case rel => exact ⟨by rw [EF], hg⟩
          · have EF : (!(itOk b S'.data.toList last acc)) = true := by rw [EOK.out]; rfl
            refine wp_region_quiet (C := fun w' => Below wf.heap.size wf w') (by kernel_rfl) (by kernel_rfl) ((Below.refl _ _).drew) ?_
            repeat (
              with_reducible refine wpQuiet_step (fun K hK => ?_)
              go_simp
              first
                | (with_reducible refine hK _ ?_; clear hK K)
                | (refine hK _ ?_; clear hK K)
                | (apply Exists.intro
                   refine ⟨fun v hv => ?_, hK _ ?_⟩
                   (first
                     | with_reducible rfl
                     | (have d0 := (hv.cell (World.block_lt_of_cell? _ _ x0)).trans x0
                        have d1 := (hv.cell (World.block_lt_of_cell? _ _ x1)).trans x1
                        have d2 := (hv.cell (World.block_lt_of_cell? _ _ p2)).trans p2
                        go_simp
                        with_reducible rfl))
                   clear hK K))
            refine wpQuiet_nil ?_
            intro wg hg
            go_wp2_with fail
            go_meet
            case rel => exact ⟨by rw [EF], hg⟩
          · have EF : (!(itOk b S'.data.toList last acc)) = true := by rw [EOK.out]; simp; omega
            have r1 : (((q : Nat) : Int) == 0) = true := by rw [beq_iff_eq]; omega
            clear c1
            refine wp_region_quiet (C := fun w' => Below wf.heap.size wf w') (by kernel_rfl) (by kernel_rfl) ((Below.refl _ _).drew) ?_
            repeat (
              with_reducible refine wpQuiet_step (fun K hK => ?_)
              go_simp
              first
                | (with_reducible refine hK _ ?_; clear hK K)
                | (refine hK _ ?_; clear hK K)
                | (apply Exists.intro
                   refine ⟨fun v hv => ?_, hK _ ?_⟩
                   (first
                     | with_reducible rfl
                     | (have d0 := (hv.cell (World.block_lt_of_cell? _ _ x0)).trans x0
                        have d1 := (hv.cell (World.block_lt_of_cell? _ _ x1)).trans x1
                        have d2 := (hv.cell (World.block_lt_of_cell? _ _ p2)).trans p2
                        go_simp
                        with_reducible rfl))
                   clear hK K))
            refine wpQuiet_nil ?_
            intro wg hg
            go_wp2_with fail
            go_meet
            case rel => exact ⟨by rw [EF], hg⟩
        case rest =>
          obtain ⟨rfl, hb4⟩ := hcut
          have H4 := Lib.hid (H3.out.mono hb4)
          have B4 := Lib.hid (B3.out.trans (hb4.mono B3.out.size))
          have y0 : wc.cell? ⟨X, 0, none⟩ = some (.int .i64 a) := (hb4.cell (World.block_lt_of_cell? _ _ x0)).trans x0
          have y1 : wc.cell? ⟨X, 1, none⟩ = some (.int .u64 q) := (hb4.cell (World.block_lt_of_cell? _ _ x1)).trans x1
          clear hb4 x0 x1 p0 p2 s4
          cases hok : itOk b S'.data.toList last acc with
          | false =>
            have EN := Lib.hid (show RES = none by
              rw [← HD.out, decI, if_neg (by rw [hok]; decide)])
            clear hok
            go_wp2_with fail
            rw [Exit.noGoto_ret]
            go_ret3
            exact .inl ⟨by rw [HRR.out, EN.out], rfl, B4.out⟩
          | true =>
            have ES := EST.out hok
            have ED := Lib.hid (show decI b k (S'.data.toList.drop 10) a (moreL acc a q) = RES by
              rw [← HD.out, decI, if_pos hok, ← HA.out, ← HQ.out])
            have EO := Lib.hid (HO.out.more ES.1 ES.2.2.2.2 ⟨ES.2.1, ES.2.2.1⟩)
            have hGX : X ∉ G := fun h => by have := (HH.out.own.mem X h).2; omega
            have hXc := World.block_lt_of_cell? _ _ y0
            have hl5 := HO.out.len
            have ht5 : total acc + q < 18446744073709551616 := by have := ES.2.2.2.2; omega
            have KM := Lib.hid (more_any wc p G b acc a q H4.out HO.out.rise (by omega) ht5)
            have hsz := ext_size S' 10 S'.size (Nat.le_refl _) (by omega)
            have hsl := Lib.extract_to_end S' 10
            obtain ⟨S2, hS2⟩ : ∃ S2, S2 = S'.extract 10 S'.size := ⟨_, rfl⟩
            rw [← hS2] at hsz hsl
            rw [← hsl] at ED
            have HS2 := Lib.hid hS2
            clear hok ES hl5 ht5 hsl hS2
            go_wp2_with fail
            refine KM.out.mono ?_
            rintro e w7 ⟨rfl, G7, h7, t7⟩
            have z0 : w7.cell? ⟨X, 0, none⟩ = some (.int .i64 a) := (World.cell?_of_block (a := ⟨X, 0, none⟩) (t7.chg.block X hXc hGX)).trans y0
            have H7 := Lib.hid h7
            have G7' := Lib.hid (show ∀ g ∈ G7, w.heap.size ≤ g from fun g hg => (t7.foot g hg).elim (HG.out g) fun h => Nat.le_trans B4.out.size h)
            have B7 := Lib.hid (B4.out.trans (t7.chg.below (fun g hg => HG.out g hg) B4.out.size))
            clear h7 t7 y0 y1 hXc hGX KM
            go_wp2_with fail
            refine wp_region_quiet (C := fun w' => Below w7.heap.size w7 w') (by kernel_rfl) (by kernel_rfl) ((Below.refl _ _).drew) ?_
            repeat (
              with_reducible refine wpQuiet_step (fun K hK => ?_)
              go_simp
              first
                | (with_reducible refine hK _ ?_; clear hK K)
                | (refine hK _ ?_; clear hK K)
                | (apply Exists.intro
                   refine ⟨fun v hv => ?_, hK _ ?_⟩
                   (first
                     | with_reducible rfl
                     | (have d0 := (hv.cell (World.block_lt_of_cell? _ _ z0)).trans z0
                        go_simp
                        with_reducible rfl))
                   clear hK K))
            refine wpQuiet_nil ?_
            intro w8 h8
            have H8 := Lib.hid (H7.out.mono h8)
            have B8 := Lib.hid (B7.out.trans (h8.mono B7.out.size))
            clear h8 z0
            rw [← HS2.out]
            go_wp2
            go_roundw
            case rel => exact ⟨k, S2, a, _, G7, rfl, by go_num, rfl, by omega, by omega, by omega, ED.out, H8.out, EO.out, G7'.out, B8.out⟩
            case measure => simp [intOf]

end Go.Proofs.Ytgafnilcmhjpcaa.HHist
