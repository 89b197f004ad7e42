/- The walks, as the rows ask for them. -/
import Derived.Test.YtjlhfjcjmeonmaaDoorSipRef3
namespace Go.Proofs.YtjlhfjcjmeonmaaDoor.HSip
open Go.RowKit Go.Proofs.YtjlhfjcjmeonmaaDoor.Print Go.Proofs.YtjlhfjcjmeonmaaDoorW.PrintWords Go.Proofs.YtjlhfjcjmeonmaaDoorW.PrintLast Go.Proofs.YtjlhfjcjmeonmaaDoorW.PrintMore

theorem nat_u64 {a : Int} (h : (Lit.int .u64 a).wf = true) : ∃ x : Nat, a = x ∧ x < M64 := by
  have b : 0 ≤ a ∧ a ≤ 18446744073709551615 := by simpa [Lit.wf, IntKind.min, IntKind.max, IntKind.signed, IntKind.bits] using h
  exact ⟨a.toNat, by omega, by unfold M64; omega⟩
theorem nat_u8 {a : Int} (h : (Lit.int .u8 a).wf = true) : ∃ x : Nat, a = x ∧ x < 256 := by
  have b : 0 ≤ a ∧ a ≤ 255 := by simpa [Lit.wf, IntKind.min, IntKind.max, IntKind.signed, IntKind.bits] using h
  exact ⟨a.toNat, by omega, by omega⟩
theorem SipSums_at (a b : Int) (s : ByteArray) (w : World) (hT : TabAt w) (ha : (Lit.int .u64 a).wf = true) (hb : (Lit.int .u64 b).wf = true) (hs : s.size ≤ 140737488351232) :
    Calls Tryd.prog 3 #[.int .u64 a, .int .u64 b, .string s] w fun e w' => e = .returned (.bool true) ∧ Below w.heap.size w w' := by
  obtain ⟨x, rfl, hx⟩ := nat_u64 ha
  obtain ⟨y, rfl, hy⟩ := nat_u64 hb
  exact SipSums_any x y s (s.size + 20) w hT hx hy (by omega) (refSum x y s _ hx hy (by omega) (by omega)) (refSum 0 0 s _ zero_lt zero_lt (by omega) (by omega)) (refSum 1 0 s _ (by decide) zero_lt (by omega) (by omega))
theorem SipRanks_law (h f : Int) (near : Bool) (w : World) (hT : TabAt w) (hh : (Lit.int .u64 h).wf = true) :
    Calls Tryd.prog 4 #[.int .u64 h, .int .i64 f, .bool near] w fun e w' => e = .returned (.bool true) ∧ Below w.heap.size w w' := by
  obtain ⟨x, rfl, hx⟩ := nat_u64 hh
  exact SipRanks_any x f near w hT hx
theorem SipBounds_at (h g : Int) (w : World) (hT : TabAt w) (hh : (Lit.int .u64 h).wf = true) (hg : (Lit.int .u8 g).wf = true) :
    Calls Tryd.prog 6 #[.int .u64 h, .int .u8 g] w fun e w' => e = .returned (.bool true) ∧ Below w.heap.size w w' := by
  obtain ⟨x, rfl, hx⟩ := nat_u64 hh
  obtain ⟨y, rfl, hy⟩ := nat_u8 hg
  exact SipBounds_any x y w hT hx hy

end Go.Proofs.YtjlhfjcjmeonmaaDoor.HSip
