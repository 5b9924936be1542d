/-
  Heads: what a head's functions come to.
-/
import Derived.Test.YtinfdomlpbikaaaGreatDoorProg
import Derived.Test.YtinfdomlpbikaaaGreatDoorDraw
import Derived.Test.YtinfdomlpbikaaaGreatDoorByt
namespace Go.Proofs.YtinfdomlpbikaaaGreatDoor
open Go.Eng
set_option linter.unusedSimpArgs false
set_option linter.unusedVariables false
set_option maxRecDepth 100000
/-- so many bytes -/
abbrev Arr (n : Nat) := { l : List UInt8 // l.length = n }
structure HeadV where
  charge : Int
  status : Int
  command : Int
  credits : Int
  flags : Int
  next : Int
  id : Int
  async : Int
  tree : Int
  session : Int
  sign : Arr 16
def HeadV.row (h : HeadV) : List Value :=
  [.int .u16 h.charge, .int .u32 h.status, .int .u16 h.command, .int .u16 h.credits, .int .u32 h.flags, .int .u32 h.next, .int .u64 h.id, .int .u64 h.async, .int .u32 h.tree, .int .u64 h.session] ++ h.sign.1.map u8V
def HeadV.cells (h : HeadV) : Array Value := h.row.toArray
theorem HeadV.size (h : HeadV) : h.cells.size = 26 := by simp [HeadV.cells, HeadV.row, h.sign.2]
section
variable (h : HeadV)
@[go_sem] theorem hd0 : h.cells[0]? = some (.int .u16 h.charge) := by simp [HeadV.cells, HeadV.row]
@[go_sem] theorem hg0 (hp : 0 < h.cells.size) : h.cells[0] = .int .u16 h.charge := by simp [HeadV.cells, HeadV.row]
@[go_sem] theorem hd1 : h.cells[1]? = some (.int .u32 h.status) := by simp [HeadV.cells, HeadV.row]
@[go_sem] theorem hg1 (hp : 1 < h.cells.size) : h.cells[1] = .int .u32 h.status := by simp [HeadV.cells, HeadV.row]
@[go_sem] theorem hd2 : h.cells[2]? = some (.int .u16 h.command) := by simp [HeadV.cells, HeadV.row]
@[go_sem] theorem hg2 (hp : 2 < h.cells.size) : h.cells[2] = .int .u16 h.command := by simp [HeadV.cells, HeadV.row]
@[go_sem] theorem hd3 : h.cells[3]? = some (.int .u16 h.credits) := by simp [HeadV.cells, HeadV.row]
@[go_sem] theorem hg3 (hp : 3 < h.cells.size) : h.cells[3] = .int .u16 h.credits := by simp [HeadV.cells, HeadV.row]
@[go_sem] theorem hd4 : h.cells[4]? = some (.int .u32 h.flags) := by simp [HeadV.cells, HeadV.row]
@[go_sem] theorem hg4 (hp : 4 < h.cells.size) : h.cells[4] = .int .u32 h.flags := by simp [HeadV.cells, HeadV.row]
@[go_sem] theorem hd5 : h.cells[5]? = some (.int .u32 h.next) := by simp [HeadV.cells, HeadV.row]
@[go_sem] theorem hg5 (hp : 5 < h.cells.size) : h.cells[5] = .int .u32 h.next := by simp [HeadV.cells, HeadV.row]
@[go_sem] theorem hd6 : h.cells[6]? = some (.int .u64 h.id) := by simp [HeadV.cells, HeadV.row]
@[go_sem] theorem hg6 (hp : 6 < h.cells.size) : h.cells[6] = .int .u64 h.id := by simp [HeadV.cells, HeadV.row]
@[go_sem] theorem hd7 : h.cells[7]? = some (.int .u64 h.async) := by simp [HeadV.cells, HeadV.row]
@[go_sem] theorem hg7 (hp : 7 < h.cells.size) : h.cells[7] = .int .u64 h.async := by simp [HeadV.cells, HeadV.row]
@[go_sem] theorem hd8 : h.cells[8]? = some (.int .u32 h.tree) := by simp [HeadV.cells, HeadV.row]
@[go_sem] theorem hg8 (hp : 8 < h.cells.size) : h.cells[8] = .int .u32 h.tree := by simp [HeadV.cells, HeadV.row]
@[go_sem] theorem hd9 : h.cells[9]? = some (.int .u64 h.session) := by simp [HeadV.cells, HeadV.row]
@[go_sem] theorem hg9 (hp : 9 < h.cells.size) : h.cells[9] = .int .u64 h.session := by simp [HeadV.cells, HeadV.row]
@[go_sem] theorem hs0 (z : Int) : h.cells.setIfInBounds 0 (.int .u16 z) = { h with charge := z }.cells := by simp [HeadV.cells, HeadV.row]
@[go_sem] theorem hs1 (z : Int) : h.cells.setIfInBounds 1 (.int .u32 z) = { h with status := z }.cells := by simp [HeadV.cells, HeadV.row]
@[go_sem] theorem hs2 (z : Int) : h.cells.setIfInBounds 2 (.int .u16 z) = { h with command := z }.cells := by simp [HeadV.cells, HeadV.row]
@[go_sem] theorem hs3 (z : Int) : h.cells.setIfInBounds 3 (.int .u16 z) = { h with credits := z }.cells := by simp [HeadV.cells, HeadV.row]
@[go_sem] theorem hs4 (z : Int) : h.cells.setIfInBounds 4 (.int .u32 z) = { h with flags := z }.cells := by simp [HeadV.cells, HeadV.row]
@[go_sem] theorem hs5 (z : Int) : h.cells.setIfInBounds 5 (.int .u32 z) = { h with next := z }.cells := by simp [HeadV.cells, HeadV.row]
@[go_sem] theorem hs6 (z : Int) : h.cells.setIfInBounds 6 (.int .u64 z) = { h with id := z }.cells := by simp [HeadV.cells, HeadV.row]
@[go_sem] theorem hs7 (z : Int) : h.cells.setIfInBounds 7 (.int .u64 z) = { h with async := z }.cells := by simp [HeadV.cells, HeadV.row]
@[go_sem] theorem hs8 (z : Int) : h.cells.setIfInBounds 8 (.int .u32 z) = { h with tree := z }.cells := by simp [HeadV.cells, HeadV.row]
@[go_sem] theorem hs9 (z : Int) : h.cells.setIfInBounds 9 (.int .u64 z) = { h with session := z }.cells := by simp [HeadV.cells, HeadV.row]
end
@[go_sem] theorem head_size (h : HeadV) : h.cells.size = 26 := h.size
@[go_sem] theorem head_one (h : HeadV) : oneAll h.cells = true := by
  show (h.cells.toList.all fun v => v.oneCell') = true
  simp only [HeadV.cells, HeadV.row, List.all_append, List.all_map]
  simp [Value.oneCell', u8V, Function.comp_def]
@[go_sem] theorem head_ne (h : HeadV) : (h.cells = #[]) = False := by
  refine eq_false (fun e => ?_)
  have := h.size
  rw [e] at this
  cases this
def zeroH : HeadV := ⟨0, 0, 0, 0, 0, 0, 0, 0, 0, 0, ⟨List.replicate 16 0, rfl⟩⟩
@[go_sem] theorem lit_head (a b c d e f g h i j : Int) : (#[.int .u16 a, .int .u32 b, .int .u16 c, .int .u16 d, .int .u32 e, .int .u32 f, .int .u64 g, .int .u64 h, .int .u32 i, .int .u64 j, .int .u8 0, .int .u8 0, .int .u8 0, .int .u8 0, .int .u8 0, .int .u8 0, .int .u8 0, .int .u8 0, .int .u8 0, .int .u8 0, .int .u8 0, .int .u8 0, .int .u8 0, .int .u8 0, .int .u8 0, .int .u8 0] : Array Value) = HeadV.cells ⟨a, b, c, d, e, f, g, h, i, j, zeroH.sign⟩ := (rfl)
@[go_sem high] theorem zero_head : (#[.int .u16 0, .int .u32 0, .int .u16 0, .int .u16 0, .int .u32 0, .int .u32 0, .int .u64 0, .int .u64 0, .int .u32 0, .int .u64 0, .int .u8 0, .int .u8 0, .int .u8 0, .int .u8 0, .int .u8 0, .int .u8 0, .int .u8 0, .int .u8 0, .int .u8 0, .int .u8 0, .int .u8 0, .int .u8 0, .int .u8 0, .int .u8 0, .int .u8 0, .int .u8 0] : Array Value) = zeroH.cells := (rfl)
/-- the block of a head -/
@[go_sem] theorem head_arr (h : HeadV) : h.row.toArray = h.cells := (rfl)
@[go_sem high] theorem head_cut (h : HeadV) (t : TypeId) (f : Nat × Nat) : cutIn (some (.cells h.cells t f)) 0 26 = some h.row := by
  rw [cutIn_some, if_pos (by rw [h.size]; omega)]
  simp [HeadV.cells, List.take_of_length_le, HeadV.row, h.sign.2]
def hasF (f k : Int) : Prop := f / k % 2 = 1
instance (f k : Int) : Decidable (hasF f k) := inferInstanceAs (Decidable (_ = _))
theorem wrap8 {n : Int} (h0 : 0 ≤ n) (h1 : n < 256) : IntKind.u8.wrap n = n := by simp [IntKind.wrap, IntKind.bits, IntKind.signed]; omega
theorem wrap16 {n : Int} (h0 : 0 ≤ n) (h1 : n < 65536) : IntKind.u16.wrap n = n := by simp [IntKind.wrap, IntKind.bits, IntKind.signed]; omega
theorem wrap32 {n : Int} (h0 : 0 ≤ n) (h1 : n < 4294967296) : IntKind.u32.wrap n = n := by simp [IntKind.wrap, IntKind.bits, IntKind.signed]; omega
theorem wrap64 {n : Int} (h0 : 0 ≤ n) (h1 : n < 18446744073709551616) : IntKind.u64.wrap n = n := by simp [IntKind.wrap, IntKind.bits, IntKind.signed]; omega
structure HeadV.ok (h : HeadV) : Prop where
  charge : 0 ≤ h.charge ∧ h.charge < 65536
  status : 0 ≤ h.status ∧ h.status < 4294967296
  command : 0 ≤ h.command ∧ h.command < 65536
  credits : 0 ≤ h.credits ∧ h.credits < 65536
  flags : 0 ≤ h.flags ∧ h.flags < 4294967296
  next : 0 ≤ h.next ∧ h.next < 4294967296
  id : 0 ≤ h.id ∧ h.id < 18446744073709551616
  async : 0 ≤ h.async ∧ h.async < 18446744073709551616
  tree : 0 ≤ h.tree ∧ h.tree < 4294967296
  session : 0 ≤ h.session ∧ h.session < 18446744073709551616
variable {w : World}
theorem has_any (h : HeadV) (k : Int) (hk : 0 < k) (ok : 0 ≤ h.flags ∧ h.flags < 4294967296) (w : World) : CallP Tryz.prog 47 #[.agg h.cells, .int .u32 k] w (fun r w' => r = .bool (decide (hasF h.flags k)) ∧ Upd noB w w') := by
  obtain ⟨h0, h1⟩ := ok
  have hk0 : ¬ k = 0 := by omega
  have d0 : 0 ≤ h.flags / k := Int.ediv_nonneg h0 (by omega)
  have d1 : h.flags / k ≤ h.flags := Int.ediv_le_self k h0
  have hq : IntKind.u32.wrap (h.flags.tdiv k) = h.flags / k := by rw [Int.tdiv_eq_ediv_of_nonneg h0, wrap32 d0 (by omega)]
  have hr : (h.flags / k).tmod 2 = h.flags / k % 2 := Int.tmod_eq_emod_of_nonneg d0
  refine call_den (args := [_, _]) Tryz.func47 rfl rfl (by simp [Tryz.ntmps47]) ?_
  simp [go_sem, hk0, hq, hr]
  refine ⟨?_, (Upd.refl _ _).alloc _⟩
  unfold hasF
  rfl
theorem isReply_any (h : HeadV) (ok : h.ok) (w : World) : CallP Tryz.prog 24 #[.agg h.cells] w (fun r w' => r = .bool (decide (hasF h.flags 1)) ∧ Upd noB w w') := by
  have hc := h.size
  refine call_den (args := [_]) Tryz.func24 rfl rfl (by simp [Tryz.ntmps24]) ?_
  simp [go_sem]
  refine CallP.mono (has_any h 1 (by decide) ok.flags _) ?_
  rintro r w1 ⟨rfl, u1⟩
  simp [go_sem]
  exact ((Upd.refl _ _).alloc _).trans u1
def knownL (c : Int) : Bool := decide (c ≤ 18) && decide (c ≠ 11) && decide (c ≠ 15)
theorem headKnown_any (c : Int) (w : World) : CallP Tryz.prog 82 #[.int .u16 c] w (fun r w' => r = .bool (knownL c) ∧ w' = w) := by
  refine call_den (args := [_]) Tryz.func82 rfl rfl (by simp [Tryz.ntmps82]) ?_
  by_cases h1 : c = 11
  · simp [go_sem, h1, knownL]
  · by_cases h2 : c = 15
    · simp [go_sem, h1, h2, knownL]
    · simp [go_sem, h1, h2, knownL]
end Go.Proofs.YtinfdomlpbikaaaGreatDoor
