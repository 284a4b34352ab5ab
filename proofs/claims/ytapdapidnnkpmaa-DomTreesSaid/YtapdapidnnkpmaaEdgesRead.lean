/- Edges as they are read. -/
import Derived.Test.YtapdapidnnkpmaaEdges
import Derived.Test.YtapdapidnnkpmaaBasicRead
namespace Go.Proofs.Ytapdapidnnkpmaa
open Go.RowKit
section
variable {H : Type} {enc : TypeId × Value → H} {w : World} {held : Bool}
theorem fieldsEdge : (Try.prog.underlying 36).map (fun d => match d with | .struct fs => fs.toList.map (fun f => (f.type, f.offset)) | _ => []) = some [(3, 0), (3, 1)] := by kernel_rfl
theorem c_edge : Try.prog.cellsOf 36 = 2 := by kernel_rfl
theorem read_edge {n : Nat} {cs : List Value} {y : DataW H × List MemPlace} (hfit : Fits Try.prog 36 y.1) (h : DataW.trod enc Try.prog w 0 (fun _ => true) held n 36 cs = some y) : ∃ x : Edge, REdge cs x := by
  obtain ⟨hl, m, _, hall⟩ := read_struct fieldsEdge (by simp) hfit h
  rw [c_edge] at hl
  obtain ⟨v0, v1, rfl⟩ := len2 hl
  obtain ⟨y0, h0, f0⟩ := hall (3, 0) (by simp)
  obtain ⟨y1, h1, f1⟩ := hall (3, 1) (by simp)
  rw [cellsOf_one _ c_int _ _ _ rfl] at h0 h1
  obtain ⟨s0, e0, -, l0⟩ := DataW.trod_int Try.underlying3 h0
  obtain ⟨s1, e1, -, l1⟩ := DataW.trod_int Try.underlying3 h1
  simp only [List.cons.injEq, and_true] at e0 e1
  subst e0 e1
  exact ⟨⟨s0, s1⟩, rfl, l0, l1⟩
theorem read_edges {n : Nat} {cs : List Value} {y : DataW H × List MemPlace} (hfit : Fits Try.prog 22 y.1) (h : DataW.trod enc Try.prog w 0 (fun _ => true) held n 22 cs = some y) : ∃ v l, cs = [v] ∧ RSl 2 REdge w (· < w.heap.size) v l :=
  read_slice Try.underlying22 c_edge (by decide) (of_decide_eq_true (by kernel_rfl)) hfit (fun _ _ _ _ h hf => read_edge hf h) h
end
end Go.Proofs.Ytapdapidnnkpmaa
