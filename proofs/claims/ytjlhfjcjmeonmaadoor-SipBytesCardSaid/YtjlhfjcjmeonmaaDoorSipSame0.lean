/- Texts as bytes and back. -/
import Derived.Test.YtjlhfjcjmeonmaaDoorSipLaws
import Derived.Deep.QuietTactic
import Derived.Laws.BytesArg
import Derived.BigQuiet
namespace Go.Proofs.YtjlhfjcjmeonmaaDoor.HSip
set_option linter.unusedVariables false
open Go.RowKit Go.Proofs.YtjlhfjcjmeonmaaDoor.Print Go.Proofs.YtjlhfjcjmeonmaaDoorW.PrintWords Go.Proofs.YtjlhfjcjmeonmaaDoorW.PrintLast Go.Proofs.YtjlhfjcjmeonmaaDoorW.PrintMore

/-- A block that holds a text's bytes. -/
def BytesIn (w : World) (q : Nat) (s : ByteArray) : Prop := q < w.heap.size ∧ ∀ j, j < s.size → w.cell? ⟨q, j, none⟩ = some (.int .u8 ((bytesOf s).getD j 0))
theorem BytesIn.mono {w w' : World} {q : Nat} {s : ByteArray} (hb : Below w.heap.size w w') (h : BytesIn w q s) : BytesIn w' q s :=
  ⟨Nat.lt_of_lt_of_le h.1 hb.size, fun j hj => by rw [hb.cell h.1]; exact h.2 j hj⟩
theorem BytesIn.new (w : World) (s : ByteArray) : BytesIn (Lib.bytesWorld w 5 s) w.heap.size s := by
  refine ⟨by rw [Lib.bytesWorld_size]; omega, fun j hj => ?_⟩
  rw [Lib.bytesWorld_cell w 5 s j hj]
  have hl : j < s.data.toList.length := by rw [data_length]; exact hj
  simp [bytesOf, List.getD, List.getElem?_eq_getElem hl]
theorem str_bytes (s : ByteArray) : strOfNums (bytesOf s) = s := by
  refine ByteArray.ext (Array.toList_inj.1 ?_)
  rw [strOfNums_data]
  unfold bytesOf
  rw [List.map_map]
  conv => rhs; rw [← List.map_id s.data.toList]
  refine List.map_congr_left fun b _ => ?_
  simp
theorem cv_to (W : World) (s : ByteArray) : (convert 9 30 (.string s)).run Tryd.prog W = .ok (.slice (some ⟨W.heap.size, 0, none⟩) s.size (grownCap W s.size 0 5)) (Lib.bytesWorld W 5 s) :=
  Lib.run_convert_string_bytes (P := Tryd.prog) W 9 30 5 s Tryd.underlying9 Tryd.underlying30 Tryd.underlying5
theorem cv_back (V : World) (q c : Nat) (s : ByteArray) (h : BytesIn V q s) : (convert 30 9 (.slice (some ⟨q, 0, none⟩) s.size c)).run Tryd.prog V = .ok (.string s) V := by
  have := run_convert_bytes_arg (P := Tryd.prog) V 30 5 Tryd.underlying30 Tryd.underlying5 q 0 s.size c (bytesOf s) (bytesOf_length s) (fun j hj => by rw [Nat.zero_add]; exact h.2 j hj) 9 Tryd.underlying9
  rw [str_bytes] at this
  exact this
theorem TabAt.drew {w : World} (h : TabAt w) : TabAt w.drew := h
theorem TabAt.bytes {w : World} (h : TabAt w) (s : ByteArray) : TabAt (Lib.bytesWorld w 5 s) := h.below (bytes_below (Below.refl _ _) (Nat.le_refl _) _ _)
theorem TabAt.conv {w : World} (h : TabAt w) (s : ByteArray) : TabAt (Lib.bytesWorld w 5 s) := h.bytes s
theorem bel_drew {w w' : World} (h : Below w.heap.size w w') : Below w.heap.size w w'.drew := h.drew
theorem bel_bytes {w w' : World} (h : Below w.heap.size w w') (s : ByteArray) : Below w.heap.size w (Lib.bytesWorld w' 5 s) := bytes_below h h.size _ _

end Go.Proofs.YtjlhfjcjmeonmaaDoor.HSip
