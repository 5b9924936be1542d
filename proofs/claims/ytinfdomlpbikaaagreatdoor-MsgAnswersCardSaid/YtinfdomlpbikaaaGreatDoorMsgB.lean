/-
  Messages of nothing but a head: what the program makes of them.
-/
import Derived.Test.YtinfdomlpbikaaaGreatDoorMsgA
namespace Go.Proofs.YtinfdomlpbikaaaGreatDoor
open Go.Eng
set_option linter.unusedSimpArgs false
set_option linter.unusedVariables false
set_option maxRecDepth 100000
variable {w w0 : World}
@[go_sem high] theorem lit16 : (#[.int .u8 0, .int .u8 0, .int .u8 0, .int .u8 0, .int .u8 0, .int .u8 0, .int .u8 0, .int .u8 0, .int .u8 0, .int .u8 0, .int .u8 0, .int .u8 0, .int .u8 0, .int .u8 0, .int .u8 0, .int .u8 0] : Array Value) = ((zArr 16).1.map u8V).toArray := (rfl)
@[go_sem high] theorem lit32 : (#[.int .u8 0, .int .u8 0, .int .u8 0, .int .u8 0, .int .u8 0, .int .u8 0, .int .u8 0, .int .u8 0, .int .u8 0, .int .u8 0, .int .u8 0, .int .u8 0, .int .u8 0, .int .u8 0, .int .u8 0, .int .u8 0, .int .u8 0, .int .u8 0, .int .u8 0, .int .u8 0, .int .u8 0, .int .u8 0, .int .u8 0, .int .u8 0, .int .u8 0, .int .u8 0, .int .u8 0, .int .u8 0, .int .u8 0, .int .u8 0, .int .u8 0, .int .u8 0] : Array Value) = ((zArr 32).1.map u8V).toArray := (rfl)
@[go_sem high] theorem lit8 : (#[.int .u8 0, .int .u8 0, .int .u8 0, .int .u8 0, .int .u8 0, .int .u8 0, .int .u8 0, .int .u8 0] : Array Value) = ((zArr 8).1.map u8V).toArray := (rfl)
theorem cut_part {r a b c : List Value} (t : TypeId) (f : Nat × Nat) (hr : r = a ++ (b ++ c)) : cutIn (some (.cells r.toArray t f)) a.length b.length = some b := by
  subst hr
  rw [cutIn_some, if_pos (by simp)]
  simp
@[go_sem high] theorem ask_cut1 (a : AskV) (t : TypeId) (f : Nat × Nat) : cutIn (some (.cells a.cells t f)) 1 16 = some (a.guid.1.map u8V) := by
  have h := cut_part (r := a.row) (a := [Value.slice a.dialects.p a.dialects.n a.dialects.cap]) (b := a.guid.1.map u8V) (c := a.row.drop 17) t f (by
    simp [AskV.row, List.drop_append, a.guid.2])
  have h2 : cutIn (some (.cells a.row.toArray t f)) 1 16 = some (a.guid.1.map u8V) := by simpa [a.guid.2] using h
  exact h2
@[go_sem high] theorem ask_cut17 (a : AskV) (t : TypeId) (f : Nat × Nat) : cutIn (some (.cells a.cells t f)) 17 32 = some (a.proof.1.map u8V) := by
  have h := cut_part (r := a.row) (a := [Value.slice a.dialects.p a.dialects.n a.dialects.cap] ++ a.guid.1.map u8V) (b := a.proof.1.map u8V) (c := a.row.drop 49) t f (by
    simp [AskV.row, List.drop_append, a.guid.2, a.proof.2])
  have h2 : cutIn (some (.cells a.row.toArray t f)) 17 32 = some (a.proof.1.map u8V) := by simpa [a.guid.2, a.proof.2] using h
  exact h2
@[go_sem high] theorem say_cut2 (a : SayV) (t : TypeId) (f : Nat × Nat) : cutIn (some (.cells a.cells t f)) 2 8 = some (a.challenge.1.map u8V) := by
  have h := cut_part (r := a.row) (a := [.int .u16 a.dialect, .int .u64 a.size_]) (b := a.challenge.1.map u8V) (c := a.row.drop 10) t f (by
    simp [SayV.row, List.drop_append, a.challenge.2])
  have h2 : cutIn (some (.cells a.row.toArray t f)) 2 8 = some (a.challenge.1.map u8V) := by simpa [a.challenge.2] using h
  exact h2
theorem eqlA {n : Nat} {t : TypeId} (hu : Tryz.prog.underlying t = some (.array n 5)) (a b : Arr n) (w : World) : (binOp .eql t (.agg (a.1.map u8V).toArray) (.agg (b.1.map u8V).toArray)).run Tryz.prog w = .ok (.bool (a.1 == b.1)) w := by
  rw [run_eql_struct, eql_bytes (i := Tryz.t5) hu (by kernel_rfl) Tryz.underlying5 Tryz.isAgg5 (by kernel_rfl) 9998 a.1 b.1 a.2 b.2]
  rfl
@[go_sem high] theorem eqlA16 (a b : Arr 16) (w : World) : (binOp .eql 26 (.agg (a.1.map u8V).toArray) (.agg (b.1.map u8V).toArray)).run Tryz.prog w = .ok (.bool (a.1 == b.1)) w := eqlA Tryz.underlying26 a b w
@[go_sem high] theorem eqlA32 (a b : Arr 32) (w : World) : (binOp .eql 30 (.agg (a.1.map u8V).toArray) (.agg (b.1.map u8V).toArray)).run Tryz.prog w = .ok (.bool (a.1 == b.1)) w := eqlA Tryz.underlying30 a b w
@[go_sem high] theorem eqlA8 (a b : Arr 8) (w : World) : (binOp .eql 35 (.agg (a.1.map u8V).toArray) (.agg (b.1.map u8V).toArray)).run Tryz.prog w = .ok (.bool (a.1 == b.1)) w := eqlA Tryz.underlying35 a b w
theorem o8 : bits .or .u8 0 0 = 0 := by decide
theorem o16 : bits .or .u16 0 0 = 0 := by decide
theorem o32 : bits .or .u32 0 0 = 0 := by decide
theorem o64 : bits .or .u64 0 0 = 0 := by decide
theorem wr0 : IntKind.i64.wrap 0 = 0 := by decide
attribute [go_sem] o8 o16 o32 o64 wr0
set_option maxHeartbeats 2000000 in
theorem bare_zero (w : World) : CallP Tryz.prog 167 #[.agg zeroA.cells] w (fun r w' => r = .bool true ∧ Upd noB w w') := by
  refine call_den (args := [_]) Tryz.func167 rfl rfl (by simp [Tryz.ntmps167]) ?_
  simp [go_sem, zeroA]
  exact (Upd.refl _ _).alloc _
set_option maxHeartbeats 2000000 in
theorem none_zero (w : World) : CallP Tryz.prog 35 #[.agg zeroA.cells] w (fun r w' => r = .bool true ∧ Upd noB w w') := by
  refine call_den (args := [_]) Tryz.func35 rfl rfl (by simp [Tryz.ntmps35]) ?_
  simp [go_sem, zeroA]
  exact (Upd.refl _ _).alloc _
set_option maxHeartbeats 2000000 in
theorem silent_zero (w : World) : CallP Tryz.prog 36 #[.agg zeroS.cells] w (fun r w' => r = .bool true ∧ Upd noB w w') := by
  refine call_den (args := [_]) Tryz.func36 rfl rfl (by simp [Tryz.ntmps36]) ?_
  simp [go_sem, zeroS]
  exact (Upd.refl _ _).alloc _
/-! ### messages, built -/
theorem splice_of_puts {c cs d : Array Value} {t : TypeId} {o : Nat} (h : putsAt (some (.cells c t (0, 0))) o cs = some (.cells d t (0, 0))) : (c.toList.take o ++ cs.toList ++ c.toList.drop (o + cs.size)).toArray = d := by
  rw [putsAt_some] at h
  split at h
  · injection h with h; injection h
  · cases h
theorem fill_step {place : Nat → Option (Nat × Nat)} {cells : Array Value} {i : Nat} {v : Value} {rest : List (Nat × Value)} {off size : Nat} (hp : place i = some (off, size)) (hv : v.cells.size = size) (hle : off + size ≤ cells.size) :
    Instr.fill place cells ((i, v) :: rest) = Instr.fill place (cells.toList.take off ++ v.cells.toList ++ cells.toList.drop (off + v.cells.size)).toArray rest := by
  have h1 : (v.cells.size ≠ size || decide (off + v.cells.size > cells.size)) = false := by simp [hv]; omega
  simp only [Instr.fill, hp, h1, Bool.false_eq_true, if_false]
  congr 1
  have hf := fold_put v.cells.toList 0 off cells (by simp [hv]; omega)
  apply Array.toList_inj.1
  rw [← Array.foldl_toList, Array.toList_zipIdx, hf]
  simp
@[go_sem high] theorem zc_ask : Tryz.zeroCells34 = zeroA.cells := (rfl)
@[go_sem high] theorem zc_msg : Tryz.zeroCells41 = zeroM.cells := (rfl)
@[go_sem high] theorem zc_message : Tryz.zeroCells66 = zeroM.cells := (rfl)
def placeM : Nat → Option (Nat × Nat) := fun x => [((0 : Nat), (26 : Nat)), (26, 69), (95, 20)][x]?
theorem fillM0 (m : MsgV) (h : HeadV) (rest : List (Nat × Value)) : Instr.fill placeM m.cells ((0, .agg h.cells) :: rest) = Instr.fill placeM { m with head := h }.cells rest := by
  have e := fill_step (place := placeM) (cells := m.cells) (i := 0) (v := .agg h.cells) (rest := rest) (off := 0) (size := 26) rfl (by show h.cells.size = 26; exact h.size) (by rw [MsgV.size]; omega)
  rw [show (Value.agg h.cells).cells = h.cells from rfl, splice_of_puts (msg_put0 m h 41)] at e
  exact e
theorem fillM1 (m : MsgV) (a : AskV) (rest : List (Nat × Value)) : Instr.fill placeM m.cells ((1, .agg a.cells) :: rest) = Instr.fill placeM { m with ask := a }.cells rest := by
  have e := fill_step (place := placeM) (cells := m.cells) (i := 1) (v := .agg a.cells) (rest := rest) (off := 26) (size := 69) rfl (by show a.cells.size = 69; exact a.size) (by rw [MsgV.size]; omega)
  rw [show (Value.agg a.cells).cells = a.cells from rfl, splice_of_puts (msg_put1 m a 41)] at e
  exact e
theorem fillM2 (m : MsgV) (s : SayV) (rest : List (Nat × Value)) : Instr.fill placeM m.cells ((2, .agg s.cells) :: rest) = Instr.fill placeM { m with say := s }.cells rest := by
  have e := fill_step (place := placeM) (cells := m.cells) (i := 2) (v := .agg s.cells) (rest := rest) (off := 95) (size := 20) rfl (by show s.cells.size = 20; exact s.size) (by rw [MsgV.size]; omega)
  rw [show (Value.agg s.cells).cells = s.cells from rfl, splice_of_puts (msg_put2 m s 41)] at e
  exact e
theorem fillM_nil (m : MsgV) : Instr.fill placeM m.cells [] = some m.cells := (rfl)
theorem build1_msg (h : HeadV) (w : World) : (Instr.build 41 #[(0, .agg h.cells)]).run Tryz.prog w = .ok (.agg (MsgV.cells ⟨h, zeroA, zeroS⟩)) w := by
  have e := fillM0 zeroM h []
  rw [fillM_nil] at e
  simp [Instr.build, run_underlying Tryz.underlying41, Tryz.zeroValue41, Tryz.sizeOf28, Tryz.sizeOf34, Tryz.sizeOf39, Value.cells]
  rw [show Tryz.zeroCells41 = zeroM.cells from rfl]
  unfold placeM at e
  rw [e]
  rfl
theorem build3_msg (h : HeadV) (a : AskV) (s : SayV) (w : World) : (Instr.build 41 #[(0, .agg h.cells), (1, .agg a.cells), (2, .agg s.cells)]).run Tryz.prog w = .ok (.agg (MsgV.cells ⟨h, a, s⟩)) w := by
  have e := fillM0 zeroM h [(1, .agg a.cells), (2, .agg s.cells)]
  rw [fillM1, fillM2, fillM_nil] at e
  simp [Instr.build, run_underlying Tryz.underlying41, Tryz.zeroValue41, Tryz.sizeOf28, Tryz.sizeOf34, Tryz.sizeOf39, Value.cells]
  rw [show Tryz.zeroCells41 = zeroM.cells from rfl]
  unfold placeM at e
  rw [e]
  rfl
theorem build3_message (h : HeadV) (a : AskV) (s : SayV) (w : World) : (Instr.build 66 #[(0, .agg h.cells), (1, .agg a.cells), (2, .agg s.cells)]).run Tryz.prog w = .ok (.agg (MsgV.cells ⟨h, a, s⟩)) w := by
  have e := fillM0 zeroM h [(1, .agg a.cells), (2, .agg s.cells)]
  rw [fillM1, fillM2, fillM_nil] at e
  simp [Instr.build, run_underlying Tryz.underlying66, Tryz.zeroValue66, Tryz.sizeOf28, Tryz.sizeOf34, Tryz.sizeOf39, Value.cells]
  rw [show Tryz.zeroCells66 = zeroM.cells from rfl]
  unfold placeM at e
  rw [e]
  rfl
theorem build1_message (h : HeadV) (w : World) : (Instr.build 66 #[(0, .agg h.cells)]).run Tryz.prog w = .ok (.agg (MsgV.cells ⟨h, zeroA, zeroS⟩)) w := by
  have e := fillM0 zeroM h []
  rw [fillM_nil] at e
  simp [Instr.build, run_underlying Tryz.underlying66, Tryz.zeroValue66, Tryz.sizeOf28, Tryz.sizeOf34, Tryz.sizeOf39, Value.cells]
  rw [show Tryz.zeroCells66 = zeroM.cells from rfl]
  unfold placeM at e
  rw [e]
  rfl
section
variable {e : Operand → Value} {ty : TypeId} (k : Value → World → Prop)
def B1 (t : TypeId) (x : Value) (w : World) (k : Value → World → Prop) : Prop := ValK Tryz.prog (Instr.build t #[(0, x)]) w k
def B3 (t : TypeId) (x y z : Value) (w : World) (k : Value → World → Prop) : Prop := ValK Tryz.prog (Instr.build t #[(0, x), (1, y), (2, z)]) w k
theorem B1_msg (h : HeadV) : B1 41 (.agg h.cells) w k = k (.agg (MsgV.cells ⟨h, zeroA, zeroS⟩)) w := by
  unfold B1 ValK; rw [build1_msg]; rfl
theorem B1_message (h : HeadV) : B1 66 (.agg h.cells) w k = k (.agg (MsgV.cells ⟨h, zeroA, zeroS⟩)) w := by
  unfold B1 ValK; rw [build1_message]; rfl
theorem B3_msg (h : HeadV) (a : AskV) (s : SayV) : B3 41 (.agg h.cells) (.agg a.cells) (.agg s.cells) w k = k (.agg (MsgV.cells ⟨h, a, s⟩)) w := by
  unfold B3 ValK; rw [build3_msg]; rfl
theorem B3_message (h : HeadV) (a : AskV) (s : SayV) : B3 66 (.agg h.cells) (.agg a.cells) (.agg s.cells) w k = k (.agg (MsgV.cells ⟨h, a, s⟩)) w := by
  unfold B3 ValK; rw [build3_message]; rfl
theorem R_B1_msg (x : Operand) : RunO Tryz.prog (.build 41 #[(0, x)]) ty e w k = B1 41 (e x) w k := by rw [R_build]; unfold B1; simp only [List.map_toArray, List.map_cons, List.map_nil]
theorem R_B1_message (x : Operand) : RunO Tryz.prog (.build 66 #[(0, x)]) ty e w k = B1 66 (e x) w k := by rw [R_build]; unfold B1; simp only [List.map_toArray, List.map_cons, List.map_nil]
theorem R_B3_msg (x y z : Operand) : RunO Tryz.prog (.build 41 #[(0, x), (1, y), (2, z)]) ty e w k = B3 41 (e x) (e y) (e z) w k := by rw [R_build]; unfold B3; simp only [List.map_toArray, List.map_cons, List.map_nil]
theorem R_B3_message (x y z : Operand) : RunO Tryz.prog (.build 66 #[(0, x), (1, y), (2, z)]) ty e w k = B3 66 (e x) (e y) (e z) w k := by rw [R_build]; unfold B3; simp only [List.map_toArray, List.map_cons, List.map_nil]
end
attribute [go_sem high] R_B1_msg R_B1_message R_B3_msg R_B3_message
attribute [go_sem] B1_msg B1_message B3_msg B3_message
/-! ### an Echo -/
theorem talkKnown_echo (w : World) : CallP Tryz.prog 147 #[.int .u16 13] w (fun r w' => r = .bool true ∧ w' = w) := by
  refine call_den (args := [_]) Tryz.func147 rfl rfl (by simp [Tryz.ntmps147]) ?_
  simp [go_sem]
theorem equal_nil (w : World) : CallP Tryz.prog 166 #[.slice none 0 0, .slice none 0 0] w (fun r w' => r = .bool true ∧ w' = w) := by
  refine call_den (args := [_, _]) Tryz.func166 rfl rfl (by simp [Tryz.ntmps166]) ?_
  simp [go_sem]
  refine den_loop (fun _ ρ w' => ρ 12 = .int .i64 0 ∧ ρ 13 = .int .i64 0 ∧ w' = w) 0 ⟨by simp [go_sem], by simp [go_sem], rfl⟩ ?_
  rintro m ρ w' ⟨g12, g13, rfl⟩
  simp [go_sem, g12, g13]
set_option maxHeartbeats 2000000 in
theorem sameAsk_zero (w : World) : CallP Tryz.prog 148 #[.agg zeroA.cells, .agg zeroA.cells] w (fun r w' => r = .bool true ∧ Upd noB w w') := by
  refine call_den (args := [_, _]) Tryz.func148 rfl rfl (by simp [Tryz.ntmps148]) ?_
  simp [go_sem]
  refine CallP.mono (equal_nil _) ?_
  rintro r W ⟨rfl, hW⟩
  have hu : Upd noB w W := by rw [hW]; exact (by repeat (first | exact Upd.refl _ _ | refine Upd.alloc ?_ _ | refine Upd.drew ?_ | refine Upd.drewN ?_ _ | refine Upd.setB ?_ _ _ (fun h => absurd h (by omega))))
  have hb0 : W.heap[w.heap.size]? = some (.cells zeroA.cells 34 (0, 0)) := by rw [hW, heap_alloc, if_neg (by simp), heap_alloc, if_pos rfl]
  have hb1 : W.heap[w.heap.size + 1]? = some (.cells zeroA.cells 34 (0, 0)) := by rw [hW, heap_alloc, if_pos (by simp)]
  clear hW
  simp [go_sem, hb0, hb1]
  refine CallP.mono (bare_zero _) ?_
  rintro r W2 ⟨rfl, u2⟩
  have hb2 := u2.get hb1 (by simp [noB])
  simp [go_sem, hb2]
  refine CallP.mono (bare_zero _) ?_
  rintro r W3 ⟨rfl, u3⟩
  simp [go_sem]
  exact (hu.trans u2).trans u3
theorem make4 (k : Value → World → Prop) : K_makeSlice Tryz.prog 31 (.int .i64 4) (.int .i64 4) w k = k (.slice (some ⟨w.heap.size, 0, none⟩) 4 4) (w.alloc (.cells (([0, 0, 0, 0] : List UInt8).map u8V).toArray 5)) :=
  K_makeSlice_ok _ _ _ _ (slByte.makeB zByte 4 (by omega) .i64 .i64)
theorem own4 (w : World) : OwnB (w.alloc (.cells (([0, 0, 0, 0] : List UInt8).map u8V).toArray 5)) w.heap.size (.slice (some ⟨w.heap.size, 0, none⟩) 4 4) [0, 0, 0, 0] :=
  own_block (w := w.alloc (.cells (([0, 0, 0, 0] : List UInt8).map u8V).toArray 5)) (c := (([0, 0, 0, 0] : List UInt8).map u8V).toArray) (by rw [heap_alloc, if_pos rfl]) (Nat.le_refl _) rfl (by decide)
set_option maxHeartbeats 2000000 in
theorem putAsk_echo (w : World) : CallP Tryz.prog 92 #[.int .u16 13, .agg zeroA.cells] w (fun r w' => ∃ v, r = .tuple #[v, .int .i64 0] ∧ Upd noB w w' ∧ OwnB w' w.heap.size v [0, 0, 0, 0]) := by
  refine call_den (args := [_, _]) Tryz.func92 rfl rfl (by simp [Tryz.ntmps92]) ?_
  simp [go_sem]
  refine CallP.mono (talkKnown_echo _) ?_
  rintro r W ⟨rfl, hW⟩
  have hu : Upd noB w W := by rw [hW]; exact (by repeat (first | exact Upd.refl _ _ | refine Upd.alloc ?_ _ | refine Upd.drew ?_ | refine Upd.drewN ?_ _ | refine Upd.setB ?_ _ _ (fun h => absurd h (by omega))))
  have hb0 : W.heap[w.heap.size]? = some (.cells zeroA.cells 34 (0, 0)) := by rw [hW, heap_setB, if_neg (by omega), heap_alloc, if_neg (by simp), heap_alloc, if_pos rfl]
  have hb1 : W.heap[w.heap.size + 1]? = some (.cells zeroA.cells 34 (0, 0)) := by rw [hW, heap_setB, if_pos rfl, heap_alloc, if_pos (by simp)]; rfl
  clear hW
  simp [go_sem, hb0, hb1]
  refine CallP.mono (sameAsk_zero _) ?_
  rintro r W2 ⟨rfl, u2⟩
  simp [go_sem, make4]
  exact ⟨(hu.trans u2).alloc _, own_base (own4 W2) (by have := (hu.trans u2).size; exact this)⟩
theorem loadAt_cut {t : TypeId} {n b o : Nat} {cs : List Value} {W : World} (ha : (isAgg t).run Tryz.prog W = .ok true W) (hs : (Go.sizeOf t).run Tryz.prog W = .ok n W) (hb : cutIn (W.heap[b]?) o n = some cs) : (Instr.loadAt t (.pointer (some ⟨b, o, none⟩))).run Tryz.prog W = .ok (.agg cs.toArray) W := by
  obtain ⟨c, te, f, hb2, hle, rfl⟩ := cutIn_spec hb
  exact run_loadAgg ha hs b o hb2 hle
/-! ### a message that lies in a block -/
def MsgAt (W : World) (b : Nat) (m : MsgV) : Prop := W.heap[b]? = some (.cells m.cells 66 (0, 0))
theorem msgReply_any {b : Nat} {m : MsgV} (hm : MsgAt w b m) (hf : 0 ≤ m.head.flags ∧ m.head.flags < 4294967296) : CallP Tryz.prog 34 #[.pointer (some ⟨b, 0, none⟩)] w (fun r w' => r = .bool (decide (hasF m.head.flags 1)) ∧ w' = w) := by
  have a1 := and_1 hf.1 hf.2
  unfold MsgAt at hm
  refine call_den (args := [_]) Tryz.func34 rfl rfl (by simp [Tryz.ntmps34]) ?_
  by_cases h : hasF m.head.flags 1
  · simp [go_sem, hm, a1, h]
  · simp [go_sem, hm, a1, h]
theorem msgFault_any {b : Nat} {m : MsgV} (hm : MsgAt w b m) (hf : 0 ≤ m.head.flags ∧ m.head.flags < 4294967296) : CallP Tryz.prog 37 #[.pointer (some ⟨b, 0, none⟩)] w (fun r w' => r = .bool (decide (hasF m.head.flags 1) && decide (m.head.status ≠ 0)) ∧ w' = w) := by
  refine call_den (args := [_]) Tryz.func37 rfl rfl (by simp [Tryz.ntmps37]) ?_
  simp [go_sem]
  refine CallP.mono (msgReply_any hm hf) ?_
  rintro r W ⟨rfl, rfl⟩
  unfold MsgAt at hm
  by_cases h : hasF m.head.flags 1
  · simp [go_sem, hm, h]
    rfl
  · simp [go_sem, hm, h]
theorem by_talk (w : World) : CallP Tryz.prog 57 #[.int .u16 13] w (fun r w' => r = .agg #[.func (.func 92) #[] #[], .func (.func 93) #[] #[], .func (.func 94) #[] #[], .func (.func 95) #[] #[]] ∧ Upd noB w w') := by
  refine call_den (args := [_]) Tryz.func57 rfl rfl (by simp [Tryz.ntmps57]) ?_
  simp [go_sem]
  exact (by repeat (first | exact Upd.refl _ _ | refine Upd.alloc ?_ _ | refine Upd.drew ?_ | refine Upd.drewN ?_ _ | refine Upd.setB ?_ _ _ (fun h => absurd h (by omega))))
set_option maxHeartbeats 2000000 in
theorem body_fault {b : Nat} {m : MsgV} (hm : MsgAt w b m) (hf : 0 ≤ m.head.flags ∧ m.head.flags < 4294967296) (hc : m.head.command = 13) (hr : hasF m.head.flags 1) (hst : m.head.status ≠ 0) :
    CallP Tryz.prog 38 #[.pointer (some ⟨b, 0, none⟩)] w (fun r w' => ∃ v, r = .tuple #[v, .int .i64 0] ∧ Upd noB w w' ∧ OwnB w' w.heap.size v [0, 0, 0, 0]) := by
  have hm' := hm
  unfold MsgAt at hm'
  refine call_den (args := [_]) Tryz.func38 rfl rfl (by simp [Tryz.ntmps38]) ?_
  simp [go_sem, hm', hc]
  refine CallP.mono (by_talk _) ?_
  rintro r W ⟨rfl, u1⟩
  simp [go_sem]
  refine gen_call ?_
  intro W1 hW1
  have hu : Upd noB w W1 := by rw [hW1]; exact (u1.alloc _).setB _ _ (fun h => absurd h (by have := u1.size; omega))
  have hx : W1.heap[W.heap.size]? = some (.cells #[.func (.func 92) #[] #[], .func (.func 93) #[] #[], .func (.func 94) #[] #[], .func (.func 95) #[] #[]] 92 (0, 0)) := by
    rw [hW1, heap_setB, if_pos rfl, heap_alloc, if_pos rfl]; rfl
  obtain ⟨bx, hbx⟩ : ∃ bx, bx = W.heap.size := ⟨_, rfl⟩
  have hbw : w.heap.size ≤ bx := by rw [hbx]; exact u1.size
  rw [← hbx] at hx ⊢
  have hm1 : MsgAt W1 b m := hu.get hm (by simp [noB])
  clear hW1 u1 hbx
  refine CallP.mono (msgFault_any hm1 hf) ?_
  rintro r W2 ⟨rfl, rfl⟩
  simp [go_sem, hr, hst, make4]
  exact ⟨hu.alloc _, own_base (own4 _) hu.size⟩
set_option maxHeartbeats 2000000 in
theorem body_echo {b : Nat} {m : MsgV} (hm : MsgAt w b m) (hf : 0 ≤ m.head.flags ∧ m.head.flags < 4294967296) (hc : m.head.command = 13) (hr : ¬ hasF m.head.flags 1) (ha : m.ask = zeroA) :
    CallP Tryz.prog 38 #[.pointer (some ⟨b, 0, none⟩)] w (fun r w' => ∃ v, r = .tuple #[v, .int .i64 0] ∧ Upd noB w w' ∧ OwnB w' w.heap.size v [0, 0, 0, 0]) := by
  have hm' := hm
  unfold MsgAt at hm'
  refine call_den (args := [_]) Tryz.func38 rfl rfl (by simp [Tryz.ntmps38]) ?_
  simp [go_sem, hm', hc]
  refine CallP.mono (by_talk _) ?_
  rintro r W ⟨rfl, u1⟩
  simp [go_sem]
  refine gen_call ?_
  intro W1 hW1
  have hu : Upd noB w W1 := by rw [hW1]; exact (u1.alloc _).setB _ _ (fun h => absurd h (by have := u1.size; omega))
  have hx : W1.heap[W.heap.size]? = some (.cells #[.func (.func 92) #[] #[], .func (.func 93) #[] #[], .func (.func 94) #[] #[], .func (.func 95) #[] #[]] 92 (0, 0)) := by
    rw [hW1, heap_setB, if_pos rfl, heap_alloc, if_pos rfl]; rfl
  obtain ⟨bx, hbx⟩ : ∃ bx, bx = W.heap.size := ⟨_, rfl⟩
  have hbw : w.heap.size ≤ bx := by rw [hbx]; exact u1.size
  rw [← hbx] at hx ⊢
  have hm1 : MsgAt W1 b m := hu.get hm (by simp [noB])
  clear hW1 u1 hbx
  refine CallP.mono (msgFault_any hm1 hf) ?_
  rintro r W2 ⟨rfl, rfl⟩
  simp [go_sem, hr]
  refine CallP.mono (msgReply_any hm1 hf) ?_
  rintro r W3 ⟨rfl, rfl⟩
  simp [go_sem, hr]
  unfold MsgAt at hm1
  have hmd := ((Upd.refl noB W3).drew).get hm1 (by simp [noB])
  have la : (Instr.loadAt 34 (.pointer (some ⟨b, 26, none⟩))).run Tryz.prog W3.drew = .ok (.agg zeroA.cells) W3.drew := by
    have h := loadAt_cut (W := W3.drew) (b := b) (o := 26) (Tryz.isAgg34 _) (Tryz.sizeOf34 _) (by rw [hmd]; exact msg_cut1 m _ _)
    rw [ha] at h
    exact h
  refine draw_script [.pure 0, .pure 2, .pure 7, .still [1, 3, 4, 5, 6, 8, 9, 10], .one 11, .still [12, 13], .pure 14, .pure 15] (by kernel_rfl) (by kernel_rfl) (by kernel_rfl) ?_
  simp [go_sem, hx, hm1, hc, Q_load_fix (W := fun _ : Unit => W3.drew) (fun _ => la)]
  refine CallP.mono (putAsk_echo _) ?_
  rintro r W4 ⟨v, rfl, u4, own⟩
  simp [go_sem]
  exact ⟨hu.drew.trans u4, own_base own hu.size⟩
end Go.Proofs.YtinfdomlpbikaaaGreatDoor
