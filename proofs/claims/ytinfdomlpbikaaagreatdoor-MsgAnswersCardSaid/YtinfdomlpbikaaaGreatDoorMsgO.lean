/-
  What came in: a head.
-/
import Derived.Test.YtinfdomlpbikaaaGreatDoorMsgH
import Derived.Test.YtinfdomlpbikaaaGreatDoorArg
namespace Go.Proofs.YtinfdomlpbikaaaGreatDoor
open Go Go.Eng Go.ChangeShapes Go.WideShapes Go.RowKit
set_option linter.unusedSimpArgs false
set_option linter.unusedVariables false
set_option maxRecDepth 100000
section
variable {H : Type} {enc : TypeId × Value → H} {w : World} {base : Nat} {spare : Nat → Bool} {held : Bool} {fuel : Nat} {cs : List Value} {x : DataW H × List MemPlace}
theorem wf_u8 {n : Int} (h : (Lit.int .u8 n).wf = true) : 0 ≤ n ∧ n < 256 := by simp [Lit.wf, IntKind.min, IntKind.max, IntKind.signed, IntKind.bits] at h; omega
theorem wf_u16 {n : Int} (h : (Lit.int .u16 n).wf = true) : 0 ≤ n ∧ n < 65536 := by simp [Lit.wf, IntKind.min, IntKind.max, IntKind.signed, IntKind.bits] at h; omega
theorem wf_u32 {n : Int} (h : (Lit.int .u32 n).wf = true) : 0 ≤ n ∧ n < 4294967296 := by simp [Lit.wf, IntKind.min, IntKind.max, IntKind.signed, IntKind.bits] at h; omega
theorem wf_u64 {n : Int} (h : (Lit.int .u64 n).wf = true) : 0 ≤ n ∧ n < 18446744073709551616 := by simp [Lit.wf, IntKind.min, IntKind.max, IntKind.signed, IntKind.bits] at h; omega
theorem u8_of {n : Int} (h : 0 ≤ n ∧ n < 256) : Value.int .u8 n = u8V (UInt8.ofNat n.toNat) := by
  unfold u8V
  have : ((UInt8.ofNat n.toNat).toNat : Int) = n := by simp; omega
  rw [this]
/-- an array of bytes -/
theorem open_arr {t e : TypeId} {n : Nat} (ht : Tryz.prog.underlying t = some (.array n e)) (he : Tryz.prog.underlying e = some (.int .u8)) (hce : Tryz.prog.cellsOf e = 1) (hct : Tryz.prog.cellsOf t = n)
    (h : DataW.trod enc Tryz.prog w base spare held fuel t cs = some x) : ∃ a : Arr n, cs = a.1.map u8V := by
  obtain ⟨xs, m, _, _, hlen, hxs, hx⟩ := DataW.trod_array ht h
  rw [hct] at hlen
  have key : ∀ i, i < n → ∃ b : UInt8, cs[i]? = some (u8V b) := by
    intro i hi
    have h1 := hx i hi
    rw [List.getElem?_eq_getElem (by omega), hce] at h1
    obtain ⟨z, h2, _, h3⟩ := DataW.trod_int he h1
    refine ⟨UInt8.ofNat z.toNat, ?_⟩
    have h4 := congrArg (fun l => l[0]?) h2
    rw [← u8_of (wf_u8 h3)]
    simpa [List.getElem?_take, List.getElem?_drop] using h4
  have key2 : ∀ (l : List Value), (∀ i, i < l.length → ∃ b : UInt8, l[i]? = some (u8V b)) → ∃ a : List UInt8, a.length = l.length ∧ l = a.map u8V := by
    intro l
    induction l with
    | nil => intro _; exact ⟨[], rfl, rfl⟩
    | cons v l ih =>
      intro hh
      obtain ⟨b, hb⟩ := hh 0 (by simp)
      obtain ⟨a, ha, hl⟩ := ih (fun i hi => by simpa using hh (i + 1) (by simpa using hi))
      refine ⟨b :: a, by simp [ha], ?_⟩
      simp at hb
      simp [hb, ← hl]
  obtain ⟨a, ha, hl⟩ := key2 cs (fun i hi => key i (by omega))
  exact ⟨⟨a, by omega⟩, hl⟩
/-- a struct's field, as cells of its own -/
theorem field_any {t : TypeId} {fs : Array Field} (ht : Tryz.prog.underlying t = some (.struct fs)) (h : DataW.trod enc Tryz.prog w base spare held fuel t cs = some x) (i : Nat) {f : Field} (hf : fs[i]? = some f) :
    ∃ m y, DataW.trod enc Tryz.prog w base spare held m f.type ((cs.drop f.offset).take (Tryz.prog.cellsOf f.type)) = some y := by
  obtain ⟨xs, n, _, _, _, hlen, hx⟩ := DataW.trod_struct ht h
  have h1 := hx i f hf
  have hi := (Array.getElem?_eq_some_iff.1 hf).1
  rw [List.getElem?_eq_getElem (by omega)] at h1
  exact ⟨_, _, h1⟩
theorem open_head (h : DataW.trod enc Tryz.prog w base spare held fuel 28 cs = some x) : ∃ g : HeadV, g.ok ∧ cs = g.row := by
  have hu := Tryz.underlying28
  obtain ⟨n0, g0, w0⟩ := field_int hu h 0 rfl Tryz.underlying22 (by kernel_rfl)
  obtain ⟨n1, g1, w1⟩ := field_int hu h 1 rfl Tryz.underlying23 (by kernel_rfl)
  obtain ⟨n2, g2, w2⟩ := field_int hu h 2 rfl Tryz.underlying24 (by kernel_rfl)
  obtain ⟨n3, g3, w3⟩ := field_int hu h 3 rfl Tryz.underlying22 (by kernel_rfl)
  obtain ⟨n4, g4, w4⟩ := field_int hu h 4 rfl Tryz.underlying23 (by kernel_rfl)
  obtain ⟨n5, g5, w5⟩ := field_int hu h 5 rfl Tryz.underlying23 (by kernel_rfl)
  obtain ⟨n6, g6, w6⟩ := field_int hu h 6 rfl Tryz.underlying25 (by kernel_rfl)
  obtain ⟨n7, g7, w7⟩ := field_int hu h 7 rfl Tryz.underlying25 (by kernel_rfl)
  obtain ⟨n8, g8, w8⟩ := field_int hu h 8 rfl Tryz.underlying23 (by kernel_rfl)
  obtain ⟨n9, g9, w9⟩ := field_int hu h 9 rfl Tryz.underlying25 (by kernel_rfl)
  obtain ⟨m, y, ha⟩ := field_any hu h 10 rfl
  obtain ⟨s, hs⟩ := open_arr (n := 16) Tryz.underlying26 Tryz.underlying5 (by kernel_rfl) (by kernel_rfl) ha
  obtain ⟨_, _, _, _, hlen, _, _⟩ := DataW.trod_struct hu h
  have hl : cs.length = 26 := hlen.trans (by kernel_rfl)
  have hs' : (cs.drop 10).take 16 = s.1.map u8V := by
    have e : Tryz.prog.cellsOf 26 = 16 := by kernel_rfl
    have h2 : (cs.drop 10).take (Tryz.prog.cellsOf 26) = s.1.map u8V := hs
    rwa [e] at h2
  refine ⟨⟨n0, n1, n2, n3, n4, n5, n6, n7, n8, n9, s⟩, ⟨wf_u16 w0, wf_u32 w1, wf_u16 w2, wf_u16 w3, wf_u32 w4, wf_u32 w5, wf_u64 w6, wf_u64 w7, wf_u32 w8, wf_u64 w9⟩, ?_⟩
  have hd : cs.drop 10 = s.1.map u8V := by rw [← hs', List.take_of_length_le (by simp; omega)]
  have e10 : cs = cs.take 10 ++ cs.drop 10 := (List.take_append_drop 10 cs).symm
  rw [e10, hd]
  show _ = _ ++ _
  congr 1
  match cs, hl, g0, g1, g2, g3, g4, g5, g6, g7, g8, g9 with
  | c0 :: c1 :: c2 :: c3 :: c4 :: c5 :: c6 :: c7 :: c8 :: c9 :: r, _, g0, g1, g2, g3, g4, g5, g6, g7, g8, g9 =>
    simp at g0 g1 g2 g3 g4 g5 g6 g7 g8 g9
    simp [*]
/-- a struct that came in by value -/
theorem open_agg {r : Reach} {b0 : Nat} {t : TypeId} {fs : Array Field} {v : Value} {d : DataW H} {p : List MemPlace} {sp : Nat → Bool} (hs : Tryz.prog.underlying t = some (.struct fs)) (hv : Value.okWide Tryz.prog w r b0 t v) (h : DataW.Trod enc Tryz.prog w base sp held t v d p) :
    ∃ (l : List Value) (m : Nat), v = .agg l.toArray ∧ DataW.trod enc Tryz.prog w base sp held m t l = some (d, p) := by
  obtain ⟨cs, rfl, hsz⟩ := okWide_struct hs hv
  obtain ⟨m, hm⟩ := h
  exact ⟨cs.toList, m, by simp, hm⟩
theorem arg_head {r : Reach} {b0 : Nat} {v : Value} {d : DataW H} {p : List MemPlace} {sp : Nat → Bool} (hv : Value.okWide Tryz.prog w r b0 28 v) (h : DataW.Trod enc Tryz.prog w base sp held 28 v d p) :
    ∃ g : HeadV, g.ok ∧ v = .agg g.cells := by
  obtain ⟨l, m, rfl, hm⟩ := open_agg Tryz.underlying28 hv h
  obtain ⟨g, ok, rfl⟩ := open_head hm
  exact ⟨g, ok, rfl⟩
end
end Go.Proofs.YtinfdomlpbikaaaGreatDoor
