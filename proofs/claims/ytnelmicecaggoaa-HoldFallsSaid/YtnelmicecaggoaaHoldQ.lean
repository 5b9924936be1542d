/-
  The acts that come in.
-/
import Derived.Test.YtnelmicecaggoaaHoldP
import Derived.Test.YtnelmicecaggoaaArg
namespace Go.Proofs.Ytnelmicecaggoaa
open Go.Eng Go Go.ChangeShapes Go.WideShapes
set_option linter.unusedSimpArgs false
set_option linter.unusedVariables false
set_option maxRecDepth 100000
instance : Inhabited ActV := ⟨⟨0, 0, 0, 0, 0, false, 0⟩⟩
theorem wf64 {n : Int} (h : (Lit.int .i64 n).wf = true) : -9223372036854775808 ≤ n ∧ n < 9223372036854775808 := by
  simp [Lit.wf, IntKind.min, IntKind.max, IntKind.signed, IntKind.bits] at h; omega
theorem wf8 {n : Int} (h : (Lit.int .u8 n).wf = true) : 0 ≤ n ∧ n < 256 := by
  simp [Lit.wf, IntKind.min, IntKind.max, IntKind.signed, IntKind.bits] at h; omega
section
variable {H : Type} {enc : TypeId × Value → H} {w : World} {held : Bool}
theorem open_act {m : Nat} {cs : List Value} {y : DataW H × List MemPlace} (hl : cs.length = 7) (h : DataW.trod enc Try.prog w 0 (fun _ => true) held m 51 cs = some y) : ∃ a : ActV, cs = a.row ∧ a.ok := by
  obtain ⟨n0, g0, w0⟩ := field_int Try.underlying51 h 0 rfl Try.underlying3 (by kernel_rfl)
  obtain ⟨n1, g1, w1⟩ := field_int Try.underlying51 h 1 rfl Try.underlying3 (by kernel_rfl)
  obtain ⟨n2, g2, w2⟩ := field_int Try.underlying51 h 2 rfl Try.underlying3 (by kernel_rfl)
  obtain ⟨n3, g3, w3⟩ := field_int Try.underlying51 h 3 rfl Try.underlying5 (by kernel_rfl)
  obtain ⟨n4, g4, w4⟩ := field_int Try.underlying51 h 4 rfl Try.underlying3 (by kernel_rfl)
  obtain ⟨b5, g5⟩ := field_bool Try.underlying51 h 5 rfl Try.underlying4 (by kernel_rfl)
  obtain ⟨n6, g6, w6⟩ := field_int Try.underlying51 h 6 rfl Try.underlying3 (by kernel_rfl)
  refine ⟨⟨n0, n1, n2, n3, n4, b5, n6⟩, ?_, (wf64 w2).2, (wf8 w3).1⟩
  match cs, hl with
  | [a0, a1, a2, a3, a4, a5, a6], _ =>
    simp at g0 g1 g2 g3 g4 g5 g6
    simp [ActV.row, ActV.cells, g0, g1, g2, g3, g4, g5, g6]
theorem open_acts {v : Value} {d : DataW H} {ps : List MemPlace} {r : Reach} {b0 : Nat} (hval : Value.okWide Try.prog w r b0 22 v) (h : DataW.Trod enc Try.prog w 0 (fun _ => true) held 22 v d ps) :
    ∃ l : List ActV, RowAt w 7 v l.length (l.flatMap ActV.row) ∧ (∀ a, a ∈ l → a.ok) ∧ l.length ≤ 9223372036854775807 := by
  obtain ⟨a, len, cap, rfl⟩ := okWide_slice Try.underlying22 hval
  obtain ⟨fuel, h⟩ := h
  obtain ⟨v', n, rows, hv, hr, hn, hx⟩ := open_rows Try.underlying22 (by kernel_rfl : Try.prog.cellsOf 51 = 7) (by decide) h
  obtain ⟨A, hA⟩ := Deep.choose_lt (α := ActV) (p := fun i a => rows i = a.row ∧ a.ok) (fun i hi => by
    obtain ⟨h1, m, y, h2⟩ := hx i hi
    exact open_act h1 h2)
  refine ⟨(List.range n).map A, ?_, ?_, by simpa using hn⟩
  · have e : ((List.range n).map A).flatMap ActV.row = (List.range n).flatMap rows := by
      rw [List.flatMap_map]
      exact Deep.flatMap_congr_range fun i hi => (hA i hi).1.symm
    rw [e, List.length_map, List.length_range]
    have hv' : [Value.slice a len cap] = [v'] := hv
    injection hv' with hv'
    rw [hv']
    exact hr
  · intro a ha
    obtain ⟨i, hi, rfl⟩ := List.mem_map.1 ha
    exact (hA i (by simpa using hi)).2
end
end Go.Proofs.Ytnelmicecaggoaa
