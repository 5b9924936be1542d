/-
  What a command asks, of what is asked.
  Writers: a block with bytes of the call's own.
  Writers: texts' rows.
  What is asked of files, put by the document.
  What is asked of files, put by the document: bytes, locks.
  Has what is asked, or said, nothing? By the program.
  DERIVED: THE SHELF's CONTRACTS AT THIS DUMP, IN PLAIN WORDS (tools/lay-plain.mjs out of 'YtinfdomlpbikaaaGreatDoorGShelfSoft.lean', which tools/lay-shelf.mjs wrote): THE SAME DECLARATIONS UNDER THE SAME NAMES: 'import', 'namespace', 'open', 'def', 'theorem' AND NOTHING ELSE: no command of the shelf's: FOR A HAND-IN. Each laying: the table of numbers ('.._ren') and one theorem, a field a fact of the dump's own or the kernel's comparison; each contract: ONE APPLICATION.
  What the layer of talks takes from package slices: Equal, Concat.
  What begins a talk, compared by the program.
  What is asked to begin and end a talk, put by the program.
-/
import Derived.Test.YtinfdomlpbikaaaGreatDoorFre5
import Derived.Test.YtinfdomlpbikaaaGreatDoorFre7
import Derived.Test.YtinfdomlpbikaaaGreatDoorFre6
import Derived.Shelf.Spec.SlicesGrow
import Derived.Test.YtinfdomlpbikaaaGreatDoorProg
namespace Go.Proofs.YtinfdomlpbikaaaGreatDoor
open Go.Eng Go.Lib
set_option linter.unusedSimpArgs false
set_option linter.unusedVariables false
set_option maxRecDepth 100000
variable {w w0 : World}
theorem AskS0.setB {ba bx : Nat} {a : AskV} {W : World} {o : Obj} (h : AskS0 ba a W) (hne : ba ≠ bx) : AskS0 ba a (W.setB bx o) := by
  unfold AskS0 at h ⊢
  rw [heap_setB, if_neg hne]
  exact h
structure AQ (w W : World) (ba br bx : Nat) (a X : AskV) : Prop where
  u : Upd noB w W
  qa : W.heap[ba]? = some (.cells a.cells 34 (0, 0))
  qr : W.heap[br]? = some (.cells zeroA.cells 34 (0, 0))
  qx : W.heap[bx]? = some (.cells X.cells 34 (0, 0))
  ne : ba ≠ bx ∧ br ≠ bx ∧ ba ≠ br ∧ w.heap.size ≤ br ∧ w.heap.size ≤ bx
theorem AQ.set {w W W' : World} {ba br bx : Nat} {a X : AskV} (h : AQ w W ba br bx a X) (Y : AskV) (e : W' = W.setB bx (.cells Y.cells 34 (0, 0))) : AQ w W' ba br bx a Y := by
  subst e
  exact ⟨h.u.setB _ _ (fun h' => absurd h' (by have := h.ne; omega)), by rw [heap_setB, if_neg h.ne.1]; exact h.qa, by rw [heap_setB, if_neg h.ne.2.1]; exact h.qr, by rw [heap_setB, if_pos rfl, h.qx]; rfl, h.ne⟩
theorem AQ.keep {w W W' : World} {ba br bx : Nat} {a X : AskV} (h : AQ w W ba br bx a X) (u : Upd noB W W') : AQ w W' ba br bx a X := ⟨h.u.trans u, u.get h.qa (fun h => h), u.get h.qr (fun h => h), u.get h.qx (fun h => h), h.ne⟩
set_option maxHeartbeats 1000000 in
theorem fileAsked5 (a : AskV) (w : World) : CallP Tryz.prog 117 #[.int .u16 5, .agg a.cells] w (fun r w' => r = .agg (AskV.cells { zeroA with access := a.access, sharing := a.sharing, way := a.way, options := a.options, level := a.level, durable := a.durable, file := a.file, name := a.name }) ∧ Upd noB w w') := by
  refine call_den (args := [_, _]) Tryz.func117 rfl rfl (by simp [Tryz.ntmps117]) ?_
  simp [go_sem]
  refine gen_draw ?_
  intro W hW
  have g : AQ w W w.heap.size (w.heap.size + 1) (w.heap.size + 1 + 1) a zeroA := by rw [hW]; exact ⟨(by repeat (first | exact Upd.refl _ _ | refine Upd.alloc ?_ _ | refine Upd.drew ?_ | refine Upd.drewN ?_ _ | refine Upd.setB ?_ _ _ (fun h => absurd h (by omega)))), (by simp only [heap_setB, heap_alloc, heap_drew, heap_drewN, size_setB, World.size_alloc]; (repeat (first | rw [if_pos trivial] | rw [if_pos (by omega)] | rw [if_neg (by omega)])); try rfl), (by simp only [heap_setB, heap_alloc, heap_drew, heap_drewN, size_setB, World.size_alloc]; (repeat (first | rw [if_pos trivial] | rw [if_pos (by omega)] | rw [if_neg (by omega)])); try rfl), (by simp only [heap_setB, heap_alloc, heap_drew, heap_drewN, size_setB, World.size_alloc]; (repeat (first | rw [if_pos trivial] | rw [if_pos (by omega)] | rw [if_neg (by omega)])); try rfl), by omega, by omega, by omega, by omega, by omega⟩
  clear hW
  generalize hbx : w.heap.size + 1 + 1 = bx at *
  generalize hbr : w.heap.size + 1 = br at *
  generalize hba : w.heap.size = ba at g ⊢
  clear hba hbr hbx
  refine Go.Eng.Ch.draw_script [.pure 0, .pure 2, .pure 4, .pure 6, .chain [1, 3, 5, 7, 8] [9, 10, 11, 12, 13], .pure 14, .one 15] (by kernel_rfl) (by kernel_rfl) (by kernel_rfl) ?_
  simp [go_sem]
  replace g := g.keep (Upd.refl noB _).drew
  have hS0 := g.qa
  have hne := g.ne.1
  obtain ⟨W1, hW1⟩ : ∃ W1, W1 = W.drew := ⟨_, rfl⟩
  rw [← hW1] at g hS0 ⊢
  clear hW1
  haveI : Nonempty { W : World // AskS0 ba a W } := ⟨⟨W1, hS0⟩⟩
  have q1 : ∀ i : { W : World // AskS0 ba a W }, i.1.heap[ba]? = some (.cells a.cells 34 (0, 0)) := fun i => i.2
  refine Go.Eng.Ch.opsPh_chain _ _ (AskS0 ba a) hS0 ?_
  have hSS : ∀ W' o, AskS0 ba a (W'.setB bx o) = AskS0 ba a W' := fun W' o => by unfold AskS0; rw [heap_setB, if_neg hne]
  have hS1 : AskS0 ba a W1 := hS0
  have hbx := g.qx
  have hbr := g.qr
  have hne2 := g.ne.2.1
  have hne3 := g.ne.2.2.1
  simp [go_sem, q1, hbx, hbr, hSS, hS1, Go.Eng.Ch.contJ_app, heap_setB, hS0, hne, hne2, hne3]
  refine gen_draw ?_
  intro W hW
  replace g := (((g.set _ rfl).set _ rfl).set _ rfl).set _ hW
  clear hW
  refine Go.Eng.Ch.draw_script [.pure 0, .pure 2, .pure 4, .pure 6, .chain [1, 3, 5, 7, 8] [9, 10, 11, 12, 13], .pure 14, .one 15] (by kernel_rfl) (by kernel_rfl) (by kernel_rfl) ?_
  simp [go_sem]
  replace g := g.keep (Upd.refl noB _).drew
  have hS0 := g.qa
  have hne := g.ne.1
  obtain ⟨W1, hW1⟩ : ∃ W1, W1 = W.drew := ⟨_, rfl⟩
  rw [← hW1] at g hS0 ⊢
  clear hW1
  haveI : Nonempty { W : World // AskS0 ba a W } := ⟨⟨W1, hS0⟩⟩
  have q1 : ∀ i : { W : World // AskS0 ba a W }, i.1.heap[ba]? = some (.cells a.cells 34 (0, 0)) := fun i => i.2
  refine Go.Eng.Ch.opsPh_chain _ _ (AskS0 ba a) hS0 ?_
  have hSS : ∀ W' o, AskS0 ba a (W'.setB bx o) = AskS0 ba a W' := fun W' o => by unfold AskS0; rw [heap_setB, if_neg hne]
  have hS1 : AskS0 ba a W1 := hS0
  have hbx := g.qx
  have hbr := g.qr
  have hne2 := g.ne.2.1
  have hne3 := g.ne.2.2.1
  simp [go_sem, q1, hbx, hbr, hSS, hS1, Go.Eng.Ch.contJ_app, heap_setB, hS0, hne, hne2, hne3]
  have hgn := g.ne
  have hgu := g.u
  repeat (first | refine Upd.setB ?_ _ _ (fun h => absurd h (by omega)) | exact hgu)
theorem fileAsked6 (a : AskV) (w : World) : CallP Tryz.prog 117 #[.int .u16 6, .agg a.cells] w (fun r w' => r = .agg (AskV.cells { zeroA with file := a.file }) ∧ Upd noB w w') := by
  refine call_den (args := [_, _]) Tryz.func117 rfl rfl (by simp [Tryz.ntmps117]) ?_
  simp [go_sem]
  refine gen_load ?_
  intro W hW
  have g : AQ w W w.heap.size (w.heap.size + 1) (w.heap.size + 1 + 1) a zeroA := by rw [hW]; exact ⟨(by repeat (first | exact Upd.refl _ _ | refine Upd.alloc ?_ _ | refine Upd.drew ?_ | refine Upd.drewN ?_ _ | refine Upd.setB ?_ _ _ (fun h => absurd h (by omega)))), (by simp only [heap_setB, heap_alloc, heap_drew, heap_drewN, size_setB, World.size_alloc]; (repeat (first | rw [if_pos trivial] | rw [if_pos (by omega)] | rw [if_neg (by omega)])); try rfl), (by simp only [heap_setB, heap_alloc, heap_drew, heap_drewN, size_setB, World.size_alloc]; (repeat (first | rw [if_pos trivial] | rw [if_pos (by omega)] | rw [if_neg (by omega)])); try rfl), (by simp only [heap_setB, heap_alloc, heap_drew, heap_drewN, size_setB, World.size_alloc]; (repeat (first | rw [if_pos trivial] | rw [if_pos (by omega)] | rw [if_neg (by omega)])); try rfl), by omega, by omega, by omega, by omega, by omega⟩
  clear hW
  generalize hbx : w.heap.size + 1 + 1 = bx at *
  generalize hbr : w.heap.size + 1 = br at *
  generalize hba : w.heap.size = ba at g ⊢
  clear hba hbr hbx
  have hne := g.ne.1
  have hne2 := g.ne.2.1
  have hne3 := g.ne.2.2.1
  simp [go_sem, g.qa, g.qx, g.qr, heap_setB, hne, hne2, hne3]
  have hgn := g.ne
  have hgu := g.u
  repeat (first | refine Upd.setB ?_ _ _ (fun h => absurd h (by omega)) | exact hgu)
theorem fileAsked7 (a : AskV) (w : World) : CallP Tryz.prog 117 #[.int .u16 7, .agg a.cells] w (fun r w' => r = .agg (AskV.cells { zeroA with file := a.file }) ∧ Upd noB w w') := by
  refine call_den (args := [_, _]) Tryz.func117 rfl rfl (by simp [Tryz.ntmps117]) ?_
  simp [go_sem]
  refine gen_load ?_
  intro W hW
  have g : AQ w W w.heap.size (w.heap.size + 1) (w.heap.size + 1 + 1) a zeroA := by rw [hW]; exact ⟨(by repeat (first | exact Upd.refl _ _ | refine Upd.alloc ?_ _ | refine Upd.drew ?_ | refine Upd.drewN ?_ _ | refine Upd.setB ?_ _ _ (fun h => absurd h (by omega)))), (by simp only [heap_setB, heap_alloc, heap_drew, heap_drewN, size_setB, World.size_alloc]; (repeat (first | rw [if_pos trivial] | rw [if_pos (by omega)] | rw [if_neg (by omega)])); try rfl), (by simp only [heap_setB, heap_alloc, heap_drew, heap_drewN, size_setB, World.size_alloc]; (repeat (first | rw [if_pos trivial] | rw [if_pos (by omega)] | rw [if_neg (by omega)])); try rfl), (by simp only [heap_setB, heap_alloc, heap_drew, heap_drewN, size_setB, World.size_alloc]; (repeat (first | rw [if_pos trivial] | rw [if_pos (by omega)] | rw [if_neg (by omega)])); try rfl), by omega, by omega, by omega, by omega, by omega⟩
  clear hW
  generalize hbx : w.heap.size + 1 + 1 = bx at *
  generalize hbr : w.heap.size + 1 = br at *
  generalize hba : w.heap.size = ba at g ⊢
  clear hba hbr hbx
  have hne := g.ne.1
  have hne2 := g.ne.2.1
  have hne3 := g.ne.2.2.1
  simp [go_sem, g.qa, g.qx, g.qr, heap_setB, hne, hne2, hne3]
  have hgn := g.ne
  have hgu := g.u
  repeat (first | refine Upd.setB ?_ _ _ (fun h => absurd h (by omega)) | exact hgu)
theorem fileAsked8 (a : AskV) (w : World) : CallP Tryz.prog 117 #[.int .u16 8, .agg a.cells] w (fun r w' => r = .agg (AskV.cells { zeroA with file := a.file, at_ := a.at_, n := a.n }) ∧ Upd noB w w') := by
  refine call_den (args := [_, _]) Tryz.func117 rfl rfl (by simp [Tryz.ntmps117]) ?_
  simp [go_sem]
  refine gen_draw ?_
  intro W hW
  have g : AQ w W w.heap.size (w.heap.size + 1) (w.heap.size + 1 + 1) a zeroA := by rw [hW]; exact ⟨(by repeat (first | exact Upd.refl _ _ | refine Upd.alloc ?_ _ | refine Upd.drew ?_ | refine Upd.drewN ?_ _ | refine Upd.setB ?_ _ _ (fun h => absurd h (by omega)))), (by simp only [heap_setB, heap_alloc, heap_drew, heap_drewN, size_setB, World.size_alloc]; (repeat (first | rw [if_pos trivial] | rw [if_pos (by omega)] | rw [if_neg (by omega)])); try rfl), (by simp only [heap_setB, heap_alloc, heap_drew, heap_drewN, size_setB, World.size_alloc]; (repeat (first | rw [if_pos trivial] | rw [if_pos (by omega)] | rw [if_neg (by omega)])); try rfl), (by simp only [heap_setB, heap_alloc, heap_drew, heap_drewN, size_setB, World.size_alloc]; (repeat (first | rw [if_pos trivial] | rw [if_pos (by omega)] | rw [if_neg (by omega)])); try rfl), by omega, by omega, by omega, by omega, by omega⟩
  clear hW
  generalize hbx : w.heap.size + 1 + 1 = bx at *
  generalize hbr : w.heap.size + 1 = br at *
  generalize hba : w.heap.size = ba at g ⊢
  clear hba hbr hbx
  refine Go.Eng.Ch.draw_script [.pure 0, .pure 2, .chain [1, 3, 4] [5], .pure 6, .one 7] (by kernel_rfl) (by kernel_rfl) (by kernel_rfl) ?_
  simp [go_sem]
  replace g := g.keep (Upd.refl noB _).drew
  have hS0 := g.qa
  have hne := g.ne.1
  obtain ⟨W1, hW1⟩ : ∃ W1, W1 = W.drew := ⟨_, rfl⟩
  rw [← hW1] at g hS0 ⊢
  clear hW1
  haveI : Nonempty { W : World // AskS0 ba a W } := ⟨⟨W1, hS0⟩⟩
  have q1 : ∀ i : { W : World // AskS0 ba a W }, i.1.heap[ba]? = some (.cells a.cells 34 (0, 0)) := fun i => i.2
  refine Go.Eng.Ch.opsPh_chain _ _ (AskS0 ba a) hS0 ?_
  have hSS : ∀ W' o, AskS0 ba a (W'.setB bx o) = AskS0 ba a W' := fun W' o => by unfold AskS0; rw [heap_setB, if_neg hne]
  have hS1 : AskS0 ba a W1 := hS0
  have hbx := g.qx
  have hbr := g.qr
  have hne2 := g.ne.2.1
  have hne3 := g.ne.2.2.1
  simp [go_sem, q1, hbx, hbr, hSS, hS1, Go.Eng.Ch.contJ_app, heap_setB, hS0, hne, hne2, hne3]
  have hgn := g.ne
  have hgu := g.u
  repeat (first | refine Upd.setB ?_ _ _ (fun h => absurd h (by omega)) | exact hgu)
theorem fileAsked9 (a : AskV) (w : World) : CallP Tryz.prog 117 #[.int .u16 9, .agg a.cells] w (fun r w' => r = .agg (AskV.cells { zeroA with file := a.file, at_ := a.at_, data := a.data }) ∧ Upd noB w w') := by
  refine call_den (args := [_, _]) Tryz.func117 rfl rfl (by simp [Tryz.ntmps117]) ?_
  simp [go_sem]
  refine gen_draw ?_
  intro W hW
  have g : AQ w W w.heap.size (w.heap.size + 1) (w.heap.size + 1 + 1) a zeroA := by rw [hW]; exact ⟨(by repeat (first | exact Upd.refl _ _ | refine Upd.alloc ?_ _ | refine Upd.drew ?_ | refine Upd.drewN ?_ _ | refine Upd.setB ?_ _ _ (fun h => absurd h (by omega)))), (by simp only [heap_setB, heap_alloc, heap_drew, heap_drewN, size_setB, World.size_alloc]; (repeat (first | rw [if_pos trivial] | rw [if_pos (by omega)] | rw [if_neg (by omega)])); try rfl), (by simp only [heap_setB, heap_alloc, heap_drew, heap_drewN, size_setB, World.size_alloc]; (repeat (first | rw [if_pos trivial] | rw [if_pos (by omega)] | rw [if_neg (by omega)])); try rfl), (by simp only [heap_setB, heap_alloc, heap_drew, heap_drewN, size_setB, World.size_alloc]; (repeat (first | rw [if_pos trivial] | rw [if_pos (by omega)] | rw [if_neg (by omega)])); try rfl), by omega, by omega, by omega, by omega, by omega⟩
  clear hW
  generalize hbx : w.heap.size + 1 + 1 = bx at *
  generalize hbr : w.heap.size + 1 = br at *
  generalize hba : w.heap.size = ba at g ⊢
  clear hba hbr hbx
  refine Go.Eng.Ch.draw_script [.pure 0, .pure 2, .chain [1, 3, 4] [5], .pure 6, .one 7] (by kernel_rfl) (by kernel_rfl) (by kernel_rfl) ?_
  simp [go_sem]
  replace g := g.keep (Upd.refl noB _).drew
  have hS0 := g.qa
  have hne := g.ne.1
  obtain ⟨W1, hW1⟩ : ∃ W1, W1 = W.drew := ⟨_, rfl⟩
  rw [← hW1] at g hS0 ⊢
  clear hW1
  haveI : Nonempty { W : World // AskS0 ba a W } := ⟨⟨W1, hS0⟩⟩
  have q1 : ∀ i : { W : World // AskS0 ba a W }, i.1.heap[ba]? = some (.cells a.cells 34 (0, 0)) := fun i => i.2
  refine Go.Eng.Ch.opsPh_chain _ _ (AskS0 ba a) hS0 ?_
  have hSS : ∀ W' o, AskS0 ba a (W'.setB bx o) = AskS0 ba a W' := fun W' o => by unfold AskS0; rw [heap_setB, if_neg hne]
  have hS1 : AskS0 ba a W1 := hS0
  have hbx := g.qx
  have hbr := g.qr
  have hne2 := g.ne.2.1
  have hne3 := g.ne.2.2.1
  simp [go_sem, q1, hbx, hbr, hSS, hS1, Go.Eng.Ch.contJ_app, heap_setB, hS0, hne, hne2, hne3]
  have hgn := g.ne
  have hgu := g.u
  repeat (first | refine Upd.setB ?_ _ _ (fun h => absurd h (by omega)) | exact hgu)
theorem fileAsked10 (a : AskV) (w : World) : CallP Tryz.prog 117 #[.int .u16 10, .agg a.cells] w (fun r w' => r = .agg (AskV.cells { zeroA with file := a.file, locks := a.locks }) ∧ Upd noB w w') := by
  refine call_den (args := [_, _]) Tryz.func117 rfl rfl (by simp [Tryz.ntmps117]) ?_
  simp [go_sem]
  refine gen_load ?_
  intro W hW
  have g : AQ w W w.heap.size (w.heap.size + 1) (w.heap.size + 1 + 1) a zeroA := by rw [hW]; exact ⟨(by repeat (first | exact Upd.refl _ _ | refine Upd.alloc ?_ _ | refine Upd.drew ?_ | refine Upd.drewN ?_ _ | refine Upd.setB ?_ _ _ (fun h => absurd h (by omega)))), (by simp only [heap_setB, heap_alloc, heap_drew, heap_drewN, size_setB, World.size_alloc]; (repeat (first | rw [if_pos trivial] | rw [if_pos (by omega)] | rw [if_neg (by omega)])); try rfl), (by simp only [heap_setB, heap_alloc, heap_drew, heap_drewN, size_setB, World.size_alloc]; (repeat (first | rw [if_pos trivial] | rw [if_pos (by omega)] | rw [if_neg (by omega)])); try rfl), (by simp only [heap_setB, heap_alloc, heap_drew, heap_drewN, size_setB, World.size_alloc]; (repeat (first | rw [if_pos trivial] | rw [if_pos (by omega)] | rw [if_neg (by omega)])); try rfl), by omega, by omega, by omega, by omega, by omega⟩
  clear hW
  generalize hbx : w.heap.size + 1 + 1 = bx at *
  generalize hbr : w.heap.size + 1 = br at *
  generalize hba : w.heap.size = ba at g ⊢
  clear hba hbr hbx
  have hne := g.ne.1
  have hne2 := g.ne.2.1
  have hne3 := g.ne.2.2.1
  simp [go_sem, g.qa, g.qx, g.qr, heap_setB, hne, hne2, hne3]
  have hgn := g.ne
  have hgu := g.u
  repeat (first | refine Upd.setB ?_ _ _ (fun h => absurd h (by omega)) | exact hgu)
theorem infoAsked12 (a : AskV) (w : World) : CallP Tryz.prog 132 #[.int .u16 12, .agg a.cells] w (fun r w' => r = .agg (AskV.cells zeroA) ∧ Upd noB w w') := by
  refine call_den (args := [_, _]) Tryz.func132 rfl rfl (by simp [Tryz.ntmps132]) ?_
  simp [go_sem]
  exact ⟨rfl, (by repeat (first | exact Upd.refl _ _ | refine Upd.alloc ?_ _ | refine Upd.drew ?_ | refine Upd.drewN ?_ _ | refine Upd.setB ?_ _ _ (fun h => absurd h (by omega))))⟩
theorem infoAsked14 (a : AskV) (w : World) : CallP Tryz.prog 132 #[.int .u16 14, .agg a.cells] w (fun r w' => r = .agg (AskV.cells { zeroA with file := a.file, most := a.most, pattern := a.pattern, after := a.after }) ∧ Upd noB w w') := by
  refine call_den (args := [_, _]) Tryz.func132 rfl rfl (by simp [Tryz.ntmps132]) ?_
  simp [go_sem]
  refine gen_draw ?_
  intro W hW
  have g : AQ w W w.heap.size (w.heap.size + 1) (w.heap.size + 1 + 1) a (AskV.mk zeroA.dialects zeroA.guid zeroA.proof zeroA.user zeroA.share zeroA.access zeroA.sharing zeroA.way zeroA.options zeroA.level zeroA.durable a.file zeroA.name zeroA.at_ zeroA.n zeroA.data zeroA.locks zeroA.most zeroA.pattern zeroA.after zeroA.cls zeroA.size_ zeroA.on) := by rw [hW]; exact ⟨(by repeat (first | exact Upd.refl _ _ | refine Upd.alloc ?_ _ | refine Upd.drew ?_ | refine Upd.drewN ?_ _ | refine Upd.setB ?_ _ _ (fun h => absurd h (by omega)))), (by simp only [heap_setB, heap_alloc, heap_drew, heap_drewN, size_setB, World.size_alloc]; (repeat (first | rw [if_pos trivial] | rw [if_pos (by omega)] | rw [if_neg (by omega)])); try rfl), (by simp only [heap_setB, heap_alloc, heap_drew, heap_drewN, size_setB, World.size_alloc]; (repeat (first | rw [if_pos trivial] | rw [if_pos (by omega)] | rw [if_neg (by omega)])); try rfl), (by simp only [heap_setB, heap_alloc, heap_drew, heap_drewN, size_setB, World.size_alloc]; (repeat (first | rw [if_pos trivial] | rw [if_pos (by omega)] | rw [if_neg (by omega)])); try rfl), by omega, by omega, by omega, by omega, by omega⟩
  clear hW
  generalize hbx : w.heap.size + 1 + 1 = bx at *
  generalize hbr : w.heap.size + 1 = br at *
  generalize hba : w.heap.size = ba at g ⊢
  clear hba hbr hbx
  refine Go.Eng.Ch.draw_script [.pure 0, .pure 2, .pure 4, .chain [1, 3, 5, 6] [7, 8, 9], .pure 10, .one 11] (by kernel_rfl) (by kernel_rfl) (by kernel_rfl) ?_
  simp [go_sem]
  replace g := g.keep (Upd.refl noB _).drew
  have hS0 := g.qa
  have hne := g.ne.1
  obtain ⟨W1, hW1⟩ : ∃ W1, W1 = W.drew := ⟨_, rfl⟩
  rw [← hW1] at g hS0 ⊢
  clear hW1
  haveI : Nonempty { W : World // AskS0 ba a W } := ⟨⟨W1, hS0⟩⟩
  have q1 : ∀ i : { W : World // AskS0 ba a W }, i.1.heap[ba]? = some (.cells a.cells 34 (0, 0)) := fun i => i.2
  refine Go.Eng.Ch.opsPh_chain _ _ (AskS0 ba a) hS0 ?_
  have hSS : ∀ W' o, AskS0 ba a (W'.setB bx o) = AskS0 ba a W' := fun W' o => by unfold AskS0; rw [heap_setB, if_neg hne]
  have hS1 : AskS0 ba a W1 := hS0
  have hbx := g.qx
  have hbr := g.qr
  have hne2 := g.ne.2.1
  have hne3 := g.ne.2.2.1
  simp [go_sem, q1, hbx, hbr, hSS, hS1, Go.Eng.Ch.contJ_app, heap_setB, hS0, hne, hne2, hne3]
  have hgn := g.ne
  have hgu := g.u
  repeat (first | refine Upd.setB ?_ _ _ (fun h => absurd h (by omega)) | exact hgu)
theorem infoAsked16 (a : AskV) (w : World) : CallP Tryz.prog 132 #[.int .u16 16, .agg a.cells] w (fun r w' => r = .agg (AskV.cells { zeroA with file := a.file }) ∧ Upd noB w w') := by
  refine call_den (args := [_, _]) Tryz.func132 rfl rfl (by simp [Tryz.ntmps132]) ?_
  simp [go_sem]
  exact (by repeat (first | exact Upd.refl _ _ | refine Upd.alloc ?_ _ | refine Upd.drew ?_ | refine Upd.drewN ?_ _ | refine Upd.setB ?_ _ _ (fun h => absurd h (by omega))))
theorem infoAsked18 (a : AskV) (w : World) : CallP Tryz.prog 132 #[.int .u16 18, .agg a.cells] w (fun r w' => r = .agg (AskV.cells { zeroA with file := a.file, level := a.level }) ∧ Upd noB w w') := by
  refine call_den (args := [_, _]) Tryz.func132 rfl rfl (by simp [Tryz.ntmps132]) ?_
  simp [go_sem]
  refine gen_load ?_
  intro W hW
  have g : AQ w W w.heap.size (w.heap.size + 1) (w.heap.size + 1 + 1) a (AskV.mk zeroA.dialects zeroA.guid zeroA.proof zeroA.user zeroA.share zeroA.access zeroA.sharing zeroA.way zeroA.options zeroA.level zeroA.durable a.file zeroA.name zeroA.at_ zeroA.n zeroA.data zeroA.locks zeroA.most zeroA.pattern zeroA.after zeroA.cls zeroA.size_ zeroA.on) := by rw [hW]; exact ⟨(by repeat (first | exact Upd.refl _ _ | refine Upd.alloc ?_ _ | refine Upd.drew ?_ | refine Upd.drewN ?_ _ | refine Upd.setB ?_ _ _ (fun h => absurd h (by omega)))), (by simp only [heap_setB, heap_alloc, heap_drew, heap_drewN, size_setB, World.size_alloc]; (repeat (first | rw [if_pos trivial] | rw [if_pos (by omega)] | rw [if_neg (by omega)])); try rfl), (by simp only [heap_setB, heap_alloc, heap_drew, heap_drewN, size_setB, World.size_alloc]; (repeat (first | rw [if_pos trivial] | rw [if_pos (by omega)] | rw [if_neg (by omega)])); try rfl), (by simp only [heap_setB, heap_alloc, heap_drew, heap_drewN, size_setB, World.size_alloc]; (repeat (first | rw [if_pos trivial] | rw [if_pos (by omega)] | rw [if_neg (by omega)])); try rfl), by omega, by omega, by omega, by omega, by omega⟩
  clear hW
  generalize hbx : w.heap.size + 1 + 1 = bx at *
  generalize hbr : w.heap.size + 1 = br at *
  generalize hba : w.heap.size = ba at g ⊢
  clear hba hbr hbx
  have hne := g.ne.1
  have hne2 := g.ne.2.1
  have hne3 := g.ne.2.2.1
  simp [go_sem, g.qa, g.qx, g.qr, heap_setB, hne, hne2, hne3]
  have hgn := g.ne
  have hgu := g.u
  repeat (first | refine Upd.setB ?_ _ _ (fun h => absurd h (by omega)) | exact hgu)
theorem infoAsked17_1 (a : AskV) (h : a.cls = 1) (w : World) : CallP Tryz.prog 132 #[.int .u16 17, .agg a.cells] w (fun r w' => r = .agg (AskV.cells { zeroA with file := a.file, cls := a.cls, size_ := a.size_ }) ∧ Upd noB w w') := by
  refine call_den (args := [_, _]) Tryz.func132 rfl rfl (by simp [Tryz.ntmps132]) ?_
  simp [go_sem, h]
  refine gen_load ?_
  intro W hW
  have g : AQ w W w.heap.size (w.heap.size + 1) (w.heap.size + 1 + 1) a (AskV.mk zeroA.dialects zeroA.guid zeroA.proof zeroA.user zeroA.share zeroA.access zeroA.sharing zeroA.way zeroA.options zeroA.level zeroA.durable a.file zeroA.name zeroA.at_ zeroA.n zeroA.data zeroA.locks zeroA.most zeroA.pattern zeroA.after zeroA.cls zeroA.size_ zeroA.on) := by rw [hW]; exact ⟨(by repeat (first | exact Upd.refl _ _ | refine Upd.alloc ?_ _ | refine Upd.drew ?_ | refine Upd.drewN ?_ _ | refine Upd.setB ?_ _ _ (fun h => absurd h (by omega)))), (by simp only [heap_setB, heap_alloc, heap_drew, heap_drewN, size_setB, World.size_alloc]; (repeat (first | rw [if_pos trivial] | rw [if_pos (by omega)] | rw [if_neg (by omega)])); try rfl), (by simp only [heap_setB, heap_alloc, heap_drew, heap_drewN, size_setB, World.size_alloc]; (repeat (first | rw [if_pos trivial] | rw [if_pos (by omega)] | rw [if_neg (by omega)])); try rfl), (by simp only [heap_setB, heap_alloc, heap_drew, heap_drewN, size_setB, World.size_alloc]; (repeat (first | rw [if_pos trivial] | rw [if_pos (by omega)] | rw [if_neg (by omega)])); try rfl), by omega, by omega, by omega, by omega, by omega⟩
  clear hW
  generalize hbx : w.heap.size + 1 + 1 = bx at *
  generalize hbr : w.heap.size + 1 = br at *
  generalize hba : w.heap.size = ba at g ⊢
  clear hba hbr hbx
  have hne := g.ne.1
  have hne2 := g.ne.2.1
  have hne3 := g.ne.2.2.1
  simp [go_sem, g.qa, g.qx, g.qr, heap_setB, hne, hne2, hne3, h]
  have hgn := g.ne
  have hgu := g.u
  repeat (first | refine Upd.setB ?_ _ _ (fun h => absurd h (by omega)) | exact hgu)
theorem infoAsked17_2 (a : AskV) (h : a.cls = 2) (w : World) : CallP Tryz.prog 132 #[.int .u16 17, .agg a.cells] w (fun r w' => r = .agg (AskV.cells { zeroA with file := a.file, cls := a.cls, on := a.on }) ∧ Upd noB w w') := by
  refine call_den (args := [_, _]) Tryz.func132 rfl rfl (by simp [Tryz.ntmps132]) ?_
  simp [go_sem, h]
  refine gen_load ?_
  intro W hW
  have g : AQ w W w.heap.size (w.heap.size + 1) (w.heap.size + 1 + 1) a (AskV.mk zeroA.dialects zeroA.guid zeroA.proof zeroA.user zeroA.share zeroA.access zeroA.sharing zeroA.way zeroA.options zeroA.level zeroA.durable a.file zeroA.name zeroA.at_ zeroA.n zeroA.data zeroA.locks zeroA.most zeroA.pattern zeroA.after zeroA.cls zeroA.size_ zeroA.on) := by rw [hW]; exact ⟨(by repeat (first | exact Upd.refl _ _ | refine Upd.alloc ?_ _ | refine Upd.drew ?_ | refine Upd.drewN ?_ _ | refine Upd.setB ?_ _ _ (fun h => absurd h (by omega)))), (by simp only [heap_setB, heap_alloc, heap_drew, heap_drewN, size_setB, World.size_alloc]; (repeat (first | rw [if_pos trivial] | rw [if_pos (by omega)] | rw [if_neg (by omega)])); try rfl), (by simp only [heap_setB, heap_alloc, heap_drew, heap_drewN, size_setB, World.size_alloc]; (repeat (first | rw [if_pos trivial] | rw [if_pos (by omega)] | rw [if_neg (by omega)])); try rfl), (by simp only [heap_setB, heap_alloc, heap_drew, heap_drewN, size_setB, World.size_alloc]; (repeat (first | rw [if_pos trivial] | rw [if_pos (by omega)] | rw [if_neg (by omega)])); try rfl), by omega, by omega, by omega, by omega, by omega⟩
  clear hW
  generalize hbx : w.heap.size + 1 + 1 = bx at *
  generalize hbr : w.heap.size + 1 = br at *
  generalize hba : w.heap.size = ba at g ⊢
  clear hba hbr hbx
  have hne := g.ne.1
  have hne2 := g.ne.2.1
  have hne3 := g.ne.2.2.1
  simp [go_sem, g.qa, g.qx, g.qr, heap_setB, hne, hne2, hne3, h]
  have hgn := g.ne
  have hgu := g.u
  repeat (first | refine Upd.setB ?_ _ _ (fun h => absurd h (by omega)) | exact hgu)
theorem infoAsked17_3 (a : AskV) (h : a.cls = 3) (w : World) : CallP Tryz.prog 132 #[.int .u16 17, .agg a.cells] w (fun r w' => r = .agg (AskV.cells { zeroA with file := a.file, cls := a.cls, on := a.on, name := a.name }) ∧ Upd noB w w') := by
  refine call_den (args := [_, _]) Tryz.func132 rfl rfl (by simp [Tryz.ntmps132]) ?_
  simp [go_sem, h]
  refine gen_load ?_
  intro W hW
  have g : AQ w W w.heap.size (w.heap.size + 1) (w.heap.size + 1 + 1) a (AskV.mk zeroA.dialects zeroA.guid zeroA.proof zeroA.user zeroA.share zeroA.access zeroA.sharing zeroA.way zeroA.options zeroA.level zeroA.durable a.file zeroA.name zeroA.at_ zeroA.n zeroA.data zeroA.locks zeroA.most zeroA.pattern zeroA.after zeroA.cls zeroA.size_ zeroA.on) := by rw [hW]; exact ⟨(by repeat (first | exact Upd.refl _ _ | refine Upd.alloc ?_ _ | refine Upd.drew ?_ | refine Upd.drewN ?_ _ | refine Upd.setB ?_ _ _ (fun h => absurd h (by omega)))), (by simp only [heap_setB, heap_alloc, heap_drew, heap_drewN, size_setB, World.size_alloc]; (repeat (first | rw [if_pos trivial] | rw [if_pos (by omega)] | rw [if_neg (by omega)])); try rfl), (by simp only [heap_setB, heap_alloc, heap_drew, heap_drewN, size_setB, World.size_alloc]; (repeat (first | rw [if_pos trivial] | rw [if_pos (by omega)] | rw [if_neg (by omega)])); try rfl), (by simp only [heap_setB, heap_alloc, heap_drew, heap_drewN, size_setB, World.size_alloc]; (repeat (first | rw [if_pos trivial] | rw [if_pos (by omega)] | rw [if_neg (by omega)])); try rfl), by omega, by omega, by omega, by omega, by omega⟩
  clear hW
  generalize hbx : w.heap.size + 1 + 1 = bx at *
  generalize hbr : w.heap.size + 1 = br at *
  generalize hba : w.heap.size = ba at g ⊢
  clear hba hbr hbx
  have hne := g.ne.1
  have hne2 := g.ne.2.1
  have hne3 := g.ne.2.2.1
  simp [go_sem, g.qa, g.qx, g.qr, heap_setB, hne, hne2, hne3, h]
  have hgn := g.ne
  have hgu := g.u
  repeat (first | refine Upd.setB ?_ _ _ (fun h => absurd h (by omega)) | exact hgu)
theorem infoAsked17_0 (a : AskV) (h : ¬ a.cls = 1 ∧ ¬ a.cls = 2 ∧ ¬ a.cls = 3) (w : World) : CallP Tryz.prog 132 #[.int .u16 17, .agg a.cells] w (fun r w' => r = .agg (AskV.cells { zeroA with file := a.file, cls := a.cls }) ∧ Upd noB w w') := by
  refine call_den (args := [_, _]) Tryz.func132 rfl rfl (by simp [Tryz.ntmps132]) ?_
  simp [go_sem, h.1, h.2.1, h.2.2]
  refine gen_load ?_
  intro W hW
  have g : AQ w W w.heap.size (w.heap.size + 1) (w.heap.size + 1 + 1) a (AskV.mk zeroA.dialects zeroA.guid zeroA.proof zeroA.user zeroA.share zeroA.access zeroA.sharing zeroA.way zeroA.options zeroA.level zeroA.durable a.file zeroA.name zeroA.at_ zeroA.n zeroA.data zeroA.locks zeroA.most zeroA.pattern zeroA.after zeroA.cls zeroA.size_ zeroA.on) := by rw [hW]; exact ⟨(by repeat (first | exact Upd.refl _ _ | refine Upd.alloc ?_ _ | refine Upd.drew ?_ | refine Upd.drewN ?_ _ | refine Upd.setB ?_ _ _ (fun h => absurd h (by omega)))), (by simp only [heap_setB, heap_alloc, heap_drew, heap_drewN, size_setB, World.size_alloc]; (repeat (first | rw [if_pos trivial] | rw [if_pos (by omega)] | rw [if_neg (by omega)])); try rfl), (by simp only [heap_setB, heap_alloc, heap_drew, heap_drewN, size_setB, World.size_alloc]; (repeat (first | rw [if_pos trivial] | rw [if_pos (by omega)] | rw [if_neg (by omega)])); try rfl), (by simp only [heap_setB, heap_alloc, heap_drew, heap_drewN, size_setB, World.size_alloc]; (repeat (first | rw [if_pos trivial] | rw [if_pos (by omega)] | rw [if_neg (by omega)])); try rfl), by omega, by omega, by omega, by omega, by omega⟩
  clear hW
  generalize hbx : w.heap.size + 1 + 1 = bx at *
  generalize hbr : w.heap.size + 1 = br at *
  generalize hba : w.heap.size = ba at g ⊢
  clear hba hbr hbx
  have hne := g.ne.1
  have hne2 := g.ne.2.1
  have hne3 := g.ne.2.2.1
  simp [go_sem, g.qa, g.qx, g.qr, heap_setB, hne, hne2, hne3, h.1, h.2.1, h.2.2]
  have hgn := g.ne
  have hgu := g.u
  repeat (first | refine Upd.setB ?_ _ _ (fun h => absurd h (by omega)) | exact hgu)
end Go.Proofs.YtinfdomlpbikaaaGreatDoor
namespace Go.Proofs.YtinfdomlpbikaaaGreatDoor
open Go.Eng Go.Lib
set_option linter.unusedSimpArgs false
set_option linter.unusedVariables false
set_option maxRecDepth 100000
variable {w w0 : World}
/-- a writer's block holds these bytes; nothing older than wb but this block has turned -/
structure WrI (wb w : World) (bw n0 : Nat) (T : TypeId) (l : List UInt8) : Prop where
  u : Upd (fun x => x = bw) wb w
  lt : bw < n0 ∧ n0 = wb.heap.size
  cell : ∃ p n c, w.heap[bw]? = some (.cells #[.slice p n c] T (0, 0)) ∧ OwnB w n0 (.slice p n c) l
section
variable {wb : World} {bw n0 : Nat} {T : TypeId} {l : List UInt8}
theorem OwnB.slice {w : World} {base : Nat} {v : Value} {l : List UInt8} (h : OwnB w base v l) : ∃ p n c, v = .slice p n c := by
  obtain ⟨p, c, h, _⟩ := h.at.len
  exact ⟨p, _, c, h⟩
/-- bytes behind others, in a world that has grown: nothing below the base turns -/
theorem OwnB.appendN {w : World} {base : Nat} {v s : Value} {l m : List UInt8} (own : OwnB w base v l) (src : BytesAt w s m) (ty : TypeId) (hroom : l.length + m.length ≤ 140737488355328) (hbase : base ≤ w.heap.size) :
    ∃ p n c w', (Builtin.append_ #[31, 31] ty #[v, s]).run Tryz.prog w = .ok (.slice p n c) w' ∧ OwnB w' base (.slice p n c) (l ++ m) ∧ Upd (fun i => base ≤ i) w w' := by
  obtain ⟨v', w', h1, h2, h3⟩ := OwnB.append own src ty (by omega) hbase
  obtain ⟨p, n, c, rfl⟩ := OwnB.slice h2
  exact ⟨p, n, c, w', h1, h2, (Upd.refl _ _).grown h3 (fun k hk _ => (own.lt k hk).1)⟩
theorem fileW {z : Int} {k : Nat} (I : WrI wb w bw n0 T l) (hk : sizeOk k) (h0 : 0 ≤ z) (h1 : z < 256 ^ k) (hl : l.length ≤ 1099511627776) :
    CallP Tryz.prog 119 #[.pointer (some ⟨bw, 0, none⟩), .int .u64 z, .int .i64 k] w (fun r w' => WrI wb w' bw n0 T (l ++ leB z.toNat k)) := by
  obtain ⟨p, n, c, hc, own⟩ := I.cell
  refine call_den (args := [_, _, _]) Tryz.func119 rfl rfl (by simp [Tryz.ntmps119]) ?_
  simp [go_sem]
  refine CallP.mono (endsPut_z hk h0 h1 w) ?_
  rintro r w1 ⟨x, rfl, u1, own1⟩
  have hc1 := u1.get hc (fun h => h)
  have hs := I.u.size
  obtain ⟨p2, n2, c2, w2, hrun, own2, u2⟩ := OwnB.appendN (own_keep0 own u1) own1.at 31 (by rw [leB_len]; unfold sizeOk at hk; omega) (by have := I.lt.2; have := u1.size; omega)
  have hc2 := u2.get hc1 (by have := I.lt; omega)
  simp [go_sem, hc1, K_append_ok _ _ _ _ hrun, hc2]
  have u3 : Upd (fun x => x = bw) wb (w2.setB bw (.cells #[.slice p2 n2 c2] T (0, 0))) := (((I.u.trans (u1.mono (fun _ _ h => h.elim))).trans' u2 (fun i hi hlt => by have := I.lt; omega)).setB _ _ (fun _ => rfl))
  refine ⟨u3, I.lt, p2, n2, c2, by rw [heap_setB, if_pos rfl, hc2]; rfl, own_above own2 (Upd.setB (Upd.refl (fun x => x = bw) _) _ _ (fun _ => rfl)) (fun i h => by subst h; exact I.lt.1)⟩
def appR (m : List UInt8) : Except Int (List UInt8) → Except Int (List UInt8)
  | .ok l => .ok (l ++ m)
  | .error e => .error e
def ResOk (e : Int) (l : List UInt8) : Except Int (List UInt8) → Prop
  | .ok m => e = 0 ∧ m = l
  | .error x => e = x ∧ x ≠ 0
theorem ResOk.app {e : Int} {l m : List UInt8} {res : Except Int (List UInt8)} (h : ResOk e l res) : ResOk e (l ++ m) (appR m res) := by
  cases res with
  | ok x => exact ⟨h.1, by rw [h.2]⟩
  | error x => exact h
/-- a writer whose first error stays -/
structure WrE (wb w : World) (bw n0 : Nat) (T : TypeId) (N : Nat) (res : Except Int (List UInt8)) : Prop where
  u : Upd (fun x => x = bw) wb w
  lt : bw < n0 ∧ n0 = wb.heap.size
  cell : ∃ p n c e l, w.heap[bw]? = some (.cells #[.slice p n c, .int .i64 e] T (0, 0)) ∧ OwnB w n0 (.slice p n c) l ∧ l.length ≤ N ∧ ResOk e l res
theorem infoW {z : Int} {k N : Nat} {res : Except Int (List UInt8)} (I : WrE wb w bw n0 T N res) (hk : sizeOk k) (h0 : 0 ≤ z) (h1 : z < 256 ^ k) (hl : N ≤ 1099511627776) :
    CallP Tryz.prog 133 #[.pointer (some ⟨bw, 0, none⟩), .int .u64 z, .int .i64 k] w (fun r w' => WrE wb w' bw n0 T (N + 8) (appR (leB z.toNat k) res)) := by
  obtain ⟨p, n, c, e, l, hc, own, hN, hres⟩ := I.cell
  refine call_den (args := [_, _, _]) Tryz.func133 rfl rfl (by simp [Tryz.ntmps133]) ?_
  simp [go_sem]
  refine CallP.mono (endsPut_z hk h0 h1 w) ?_
  rintro r w1 ⟨x, rfl, u1, own1⟩
  have hc1 := u1.get hc (fun h => h)
  have hs := I.u.size
  have hk8 : k ≤ 8 := by unfold sizeOk at hk; omega
  obtain ⟨p2, n2, c2, w2, hrun, own2, u2⟩ := OwnB.appendN (own_keep0 own u1) own1.at 31 (by rw [leB_len]; omega) (by have := I.lt.2; have := u1.size; omega)
  have hc2 := u2.get hc1 (by have := I.lt; omega)
  simp [go_sem, hc1, K_append_ok _ _ _ _ hrun, hc2]
  have u3 : Upd (fun x => x = bw) wb (w2.setB bw (.cells #[.slice p2 n2 c2, .int .i64 e] T (0, 0))) := (((I.u.trans (u1.mono (fun _ _ h => h.elim))).trans' u2 (fun i hi hlt => by have := I.lt; omega)).setB _ _ (fun _ => rfl))
  refine ⟨u3, I.lt, p2, n2, c2, e, _, by rw [heap_setB, if_pos rfl, hc2]; rfl, own_above own2 (Upd.setB (Upd.refl (fun x => x = bw) _) _ _ (fun _ => rfl)) (fun i h => by subst h; exact I.lt.1), by rw [List.length_append, leB_len]; omega, hres.app⟩
theorem infoWB {o : Bool} {k N : Nat} {res : Except Int (List UInt8)} (I : WrE wb w bw n0 T N res) (hk : sizeOk k) (hl : N ≤ 1099511627776) :
    CallP Tryz.prog 135 #[.pointer (some ⟨bw, 0, none⟩), .bool o, .int .i64 k] w (fun r w' => WrE wb w' bw n0 T (N + 8) (appR (leB (if o then 1 else 0) k) res)) := by
  have hk1 : (1 : Int) < 256 ^ k := by
    rcases hk with rfl | rfl | rfl | rfl <;> decide
  cases o with
  | true =>
    refine call_den (args := [_, _, _]) Tryz.func135 rfl rfl (by simp [Tryz.ntmps135]) ?_
    simp [go_sem]
    refine CallP.mono (infoW (z := 1) I hk (by decide) hk1 hl) ?_
    intro r w1 I1
    simp [go_sem]
    exact I1
  | false =>
    refine call_den (args := [_, _, _]) Tryz.func135 rfl rfl (by simp [Tryz.ntmps135]) ?_
    simp [go_sem]
    refine CallP.mono (infoW (z := 0) I hk (by decide) (by omega) hl) ?_
    intro r w1 I1
    simp [go_sem]
    exact I1
theorem infoDone {N : Nat} {res : Except Int (List UInt8)} (I : WrE wb w bw n0 T N res) : CallP Tryz.prog 136 #[.pointer (some ⟨bw, 0, none⟩)] w (fun r w' => Upd (fun x => x = bw) wb w' ∧ PutR w' n0 r res) := by
  obtain ⟨p, n, c, e, l, hc, own, hN, hres⟩ := I.cell
  refine call_den (args := [_]) Tryz.func136 rfl rfl (by simp [Tryz.ntmps136]) ?_
  cases res with
  | ok m =>
    obtain ⟨rfl, rfl⟩ := hres
    simp [go_sem, hc, PutR]
    exact ⟨I.u, own⟩
  | error x =>
    obtain ⟨rfl, hx⟩ := hres
    simp [go_sem, hc, hx]
    refine draw_script [.pure 0, .pure 4, .one 1, .pure 2, .one 3, .pure 5] (by kernel_rfl) (by kernel_rfl) (by kernel_rfl) ?_
    simp [go_sem, hc, PutR]
    exact I.u.drew
end
end Go.Proofs.YtinfdomlpbikaaaGreatDoor
namespace Go.Proofs.YtinfdomlpbikaaaGreatDoor
open Go.Eng Go.Lib
set_option linter.unusedSimpArgs false
set_option linter.unusedVariables false
set_option maxRecDepth 100000
variable {w w0 : World}
def textR (res : Except Int (List UInt8)) (s : ByteArray) : Except Int (List UInt8) := match res with
  | .error e => .error e
  | .ok l => match textPut s.data.toList with
    | .ok b => .ok (l ++ b)
    | .error e => .error e
theorem textPut_len {l b : List UInt8} (h : textPut l = .ok b) : b.length ≤ 514 := by
  unfold textPut at h
  split at h
  · cases h
  · split at h
    · cases h
    · injection h with h
      subst h
      simp [leB_len]
      omega
theorem textPut_err {l : List UInt8} {e : Int} (h : textPut l = .error e) : e ≠ 0 := by
  unfold textPut at h
  split at h
  · injection h with h; omega
  · split at h
    · injection h with h; omega
    · cases h
section
variable {wb w00 : World} {bw n0 : Nat} {T : TypeId}
def strV (s : ByteArray) : Value := .string s
/-- as WrE, its bytes apart from a block -/
structure WrX (w00 wb w : World) (bw n0 bs : Nat) (T : TypeId) (N : Nat) (res : Except Int (List UInt8)) (L : List ByteArray) : Prop where
  u : Upd (fun x => x = bw) wb w
  lt : bw < n0 ∧ n0 = wb.heap.size
  cell : ∃ p n c e l, w.heap[bw]? = some (.cells #[.slice p n c, .int .i64 e] T (0, 0)) ∧ OwnB w n0 (.slice p n c) l ∧ l.length ≤ N ∧ ResOk e l res ∧ (∀ g, (Value.slice p n c).ownBlock = some g → g ≠ bs)
  row : RowAt w 1 (.slice (some ⟨bs, 0, none⟩) L.length L.length) L.length (L.map strV)
  bs : n0 ≤ bs ∧ bs < w.heap.size
def TxI (w00 wb : World) (bw n0 bs : Nat) (T : TypeId) (N : Nat) (res : Except Int (List UInt8)) (L : List ByteArray) (m : Nat) (ρ : Env) (w : World) : Prop :=
  ∃ i : Nat, m = L.length - i ∧ i ≤ L.length ∧ ρ 0 = .pointer (some ⟨bw, 0, none⟩) ∧ ρ 8 = .slice (some ⟨bs, 0, none⟩) L.length L.length ∧ ρ 9 = .int .i64 L.length ∧ ρ 10 = .int .i64 i ∧
    WrX w00 wb w bw n0 bs T (N + 520 * i) ((L.take i).foldl textR res) L
set_option maxHeartbeats 1000000 in
theorem infoTexts {N : Nat} {bs : Nat} {res : Except Int (List UInt8)} {L : List ByteArray} (hT : Tabs w00) (h00 : Upd noB w00 wb) (hb0 : w00.heap.size ≤ bw) (I : WrX w00 wb w bw n0 bs T N res L) (hN : N ≤ 549755813888) (hL : L.length ≤ 64) (hs : ∀ s ∈ L, s.size ≤ 1099511627776) :
    CallP Tryz.prog 134 #[.pointer (some ⟨bw, 0, none⟩), .slice (some ⟨bs, 0, none⟩) L.length L.length] w (fun r w' => WrE wb w' bw n0 T (N + 520 * L.length) (L.foldl textR res)) := by
  refine call_den (args := [_, _]) Tryz.func134 rfl rfl (by simp [Tryz.ntmps134]) ?_
  simp [go_sem]
  refine den_loop (TxI w00 wb bw n0 bs T N res L) L.length ?_ ?_
  · exact ⟨0, rfl, by omega, by simp [go_sem], by simp [go_sem], by simp [go_sem], by simp [go_sem], I⟩
  rintro m ρ W ⟨i, rfl, hi, g0, g8, g9, g10, J⟩
  obtain ⟨p, n, c, e, l, hc, own, hlN, hres, hob⟩ := J.cell
  by_cases hlt : i < L.length
  · have hlt' : (i : Int) < L.length := by omega
    have hwr : IntKind.i64.wrap ((i : Int) + 1) = ((i + 1 : Nat) : Int) := wrap64_id (by omega) (by omega)
    obtain ⟨s, hsx⟩ : ∃ s, s = L[i] := ⟨_, rfl⟩
    obtain ⟨q, hidx, hld, hK⟩ := J.row.at1 (P := Tryz.prog) (t := 117) (e := 9) Tryz.underlying117 Tryz.sizeOf9 Tryz.isAgg9 i hlt (.string s) (by rw [List.getElem?_map, List.getElem?_eq_getElem hlt, hsx]; rfl)
    simp [go_sem, g0, g8, g9, g10, hlt', hlt, hidx, hK]
    have hTW : Tabs W := hT.keep0 (h00.trans' J.u (fun i hi hlt => by omega))
    refine CallP.mono (putText_any s (hs s (by rw [hsx]; exact List.getElem_mem hlt)) hTW) ?_
    rintro r w1 ⟨u1, hr⟩
    have hc1 := u1.get hc (fun h => h)
    have hfold : (L.take (i + 1)).foldl textR res = textR ((L.take i).foldl textR res) s := by
      rw [List.take_succ_eq_append_getElem hlt, List.foldl_append, ← hsx]; rfl
    obtain ⟨res1, hres1⟩ : ∃ x, x = (L.take i).foldl textR res := ⟨_, rfl⟩
    rw [← hres1] at hres hfold
    have own1 := own_keep0 own u1
    have row1 : RowAt w1 1 (.slice (some ⟨bs, 0, none⟩) L.length L.length) L.length (L.map strV) := J.row.keep u1 (fun _ _ h => h)
    have hne : bs ≠ bw := by have := J.bs; have := J.lt; omega
    have hbw0 := (Array.getElem?_eq_some_iff.1 hc).1
    have U1 : Upd (fun x => x = bw) wb w1 := J.u.trans (u1.mono (fun _ _ h => h.elim))
    have hbs1 : bs < w1.heap.size := Nat.lt_of_lt_of_le J.bs.2 u1.size
    cases ht : textPut s.data.toList with
    | error z =>
      rw [ht] at hr
      simp only [PutR] at hr
      subst hr
      have hz := textPut_err ht
      cases res1 with
      | error y =>
        obtain ⟨rfl, hy⟩ := hres
        have src : BytesAt w1 _ ([]) := (bytesAt_nil _ none 0)
        have src0 := src
        obtain ⟨v', w2, hrun, own2, hg2, hat⟩ := sl_append_at slByte own1 src.1 31 (u8_one _) (by simp; omega) (by simp [maxLen]; omega) (by have := J.lt.2; have := U1.size; omega)
        have hobw : ∀ k, (Value.slice p n c).ownBlock = some k → n0 ≤ k := fun k hk => (own1.lt k hk).1
        have u2 : Upd (fun i => (Value.slice p n c).ownBlock = some i) w1 w2 := (Upd.refl _ _).grown hg2 (fun k hk _ => hk)
        have own2' : OwnB w2 n0 v' (l ++ []) := by
          unfold OwnB
          rw [List.length_append, List.map_append]
          exact own2
        obtain ⟨p2, n2, c2, rfl⟩ := OwnB.slice own2'
        have hc2 := u2.get hc1 (fun h => by have := hobw _ h; have := J.lt; omega)
        simp [go_sem, g0, g8, g9, g10, hwr, hc1, hy, K_append_ok _ _ _ _ hrun, hc2]
        have u3 : Upd (fun x => x = bw) wb (w2.setB bw (.cells #[.slice p2 n2 c2, .int .i64 e] T (0, 0))) := ((U1.trans' u2 (fun i hi hlt => by have := hobw _ hi; have := J.lt; omega)).setB _ _ (fun _ => rfl))
        have ub : Upd (fun x => x = bw) w2 (w2.setB bw (.cells #[.slice p2 n2 c2, .int .i64 e] T (0, 0))) := (Upd.refl _ _).setB _ _ (fun _ => rfl)
        refine ⟨L.length - (i + 1), by omega, i + 1, rfl, by omega, by simp [go_sem, g0], by simp [go_sem, g8], by simp [go_sem, g9], by simp [go_sem, hwr], u3, J.lt, ⟨p2, n2, c2, e, _, by rw [heap_setB, if_pos rfl, hc2]; rfl, own_above own2' ub (fun i h => by subst h; exact J.lt.1), by simp; omega, ?_, ?_⟩, ?_, J.bs.1, by rw [size_setB]; exact Nat.lt_of_lt_of_le hbs1 u2.size⟩
        · rw [hfold, textR]
          first
            | exact ⟨rfl, rfl⟩
            | exact ⟨rfl, hy⟩
            | exact ⟨rfl, hz⟩
        · intro g hg
          rcases hat with h | h
          · rw [h] at hg; exact hob g hg
          · rw [h] at hg; injection hg with hg; omega
        · refine (row1.keep u2 (fun b' hb h => ?_)).keep ub (fun b' hb h => ?_)
          · injection hb with hb; exact hob b' h hb.symm
          · injection hb with hb; have h1 : bs = b' := hb; have h' : b' = bw := h; omega
      | ok y =>
        obtain ⟨rfl, rfl⟩ := hres
        have hcz : (w1.setB bw (.cells #[.slice p n c, .int .i64 z] T (0, 0))).heap[bw]? = some (.cells #[.slice p n c, .int .i64 z] T (0, 0)) := by rw [heap_setB, if_pos rfl, hc1]; rfl
        have uz : Upd (fun x => x = bw) w1 (w1.setB bw (.cells #[.slice p n c, .int .i64 z] T (0, 0))) := (Upd.refl _ _).setB _ _ (fun _ => rfl)
        replace own1 := own_above own1 uz (fun i h => by subst h; exact J.lt.1)
        replace row1 := row1.keep uz (fun b hb h => by injection hb with hb; have h1 : bs = b := hb; have h' : b = bw := h; omega)
        replace U1 := U1.trans uz
        replace hbs1 : bs < (w1.setB bw (.cells #[.slice p n c, .int .i64 z] T (0, 0))).heap.size := by rw [size_setB]; exact hbs1
        obtain ⟨w1', hw1'⟩ : ∃ w1', w1' = w1.setB bw (.cells #[.slice p n c, .int .i64 z] T (0, 0)) := ⟨_, rfl⟩
        rw [← hw1'] at hcz uz own1 row1 U1 hbs1
        have src : BytesAt w1' _ ([]) := (bytesAt_nil _ none 0)
        have src0 := src
        obtain ⟨v', w2, hrun, own2, hg2, hat⟩ := sl_append_at slByte own1 src.1 31 (u8_one _) (by simp; omega) (by simp [maxLen]; omega) (by have := J.lt.2; have := U1.size; omega)
        have hobw : ∀ k, (Value.slice p n c).ownBlock = some k → n0 ≤ k := fun k hk => (own1.lt k hk).1
        have u2 : Upd (fun i => (Value.slice p n c).ownBlock = some i) w1' w2 := (Upd.refl _ _).grown hg2 (fun k hk _ => hk)
        have own2' : OwnB w2 n0 v' (y ++ []) := by
          unfold OwnB
          rw [List.length_append, List.map_append]
          exact own2
        obtain ⟨p2, n2, c2, rfl⟩ := OwnB.slice own2'
        have hc2 := u2.get hcz (fun h => by have := hobw _ h; have := J.lt; omega)
        simp [go_sem, g0, g8, g9, g10, hwr, hc1, ← hw1', hcz, K_append_ok _ _ _ _ hrun, hc2]
        have u3 : Upd (fun x => x = bw) wb (w2.setB bw (.cells #[.slice p2 n2 c2, .int .i64 z] T (0, 0))) := ((U1.trans' u2 (fun i hi hlt => by have := hobw _ hi; have := J.lt; omega)).setB _ _ (fun _ => rfl))
        have ub : Upd (fun x => x = bw) w2 (w2.setB bw (.cells #[.slice p2 n2 c2, .int .i64 z] T (0, 0))) := (Upd.refl _ _).setB _ _ (fun _ => rfl)
        refine ⟨L.length - (i + 1), by omega, i + 1, rfl, by omega, by simp [go_sem, g0], by simp [go_sem, g8], by simp [go_sem, g9], by simp [go_sem, hwr], u3, J.lt, ⟨p2, n2, c2, z, _, by rw [heap_setB, if_pos rfl, hc2]; rfl, own_above own2' ub (fun i h => by subst h; exact J.lt.1), by simp; omega, ?_, ?_⟩, ?_, J.bs.1, by rw [size_setB]; exact Nat.lt_of_lt_of_le hbs1 u2.size⟩
        · rw [hfold, textR, ht]
          first
            | exact ⟨rfl, rfl⟩
            | exact ⟨rfl, hy⟩
            | exact ⟨rfl, hz⟩
        · intro g hg
          rcases hat with h | h
          · rw [h] at hg; exact hob g hg
          · rw [h] at hg; injection hg with hg; omega
        · refine (row1.keep u2 (fun b' hb h => ?_)).keep ub (fun b' hb h => ?_)
          · injection hb with hb; exact hob b' h hb.symm
          · injection hb with hb; have h1 : bs = b' := hb; have h' : b' = bw := h; omega
    | ok b =>
      rw [ht] at hr
      simp only [PutR] at hr
      obtain ⟨v, rfl, ownb⟩ := hr
      have hbl := textPut_len ht
      cases res1 with
      | error y =>
        obtain ⟨rfl, hy⟩ := hres
        have src : BytesAt w1 _ (b) := ownb.at
        have src0 := src
        obtain ⟨v', w2, hrun, own2, hg2, hat⟩ := sl_append_at slByte own1 src.1 31 (u8_one _) (by simp; omega) (by simp [maxLen]; omega) (by have := J.lt.2; have := U1.size; omega)
        have hobw : ∀ k, (Value.slice p n c).ownBlock = some k → n0 ≤ k := fun k hk => (own1.lt k hk).1
        have u2 : Upd (fun i => (Value.slice p n c).ownBlock = some i) w1 w2 := (Upd.refl _ _).grown hg2 (fun k hk _ => hk)
        have own2' : OwnB w2 n0 v' (l ++ b) := by
          unfold OwnB
          rw [List.length_append, List.map_append]
          exact own2
        obtain ⟨p2, n2, c2, rfl⟩ := OwnB.slice own2'
        have hc2 := u2.get hc1 (fun h => by have := hobw _ h; have := J.lt; omega)
        simp [go_sem, g0, g8, g9, g10, hwr, hc1, hy, K_append_ok _ _ _ _ hrun, hc2]
        have u3 : Upd (fun x => x = bw) wb (w2.setB bw (.cells #[.slice p2 n2 c2, .int .i64 e] T (0, 0))) := ((U1.trans' u2 (fun i hi hlt => by have := hobw _ hi; have := J.lt; omega)).setB _ _ (fun _ => rfl))
        have ub : Upd (fun x => x = bw) w2 (w2.setB bw (.cells #[.slice p2 n2 c2, .int .i64 e] T (0, 0))) := (Upd.refl _ _).setB _ _ (fun _ => rfl)
        refine ⟨L.length - (i + 1), by omega, i + 1, rfl, by omega, by simp [go_sem, g0], by simp [go_sem, g8], by simp [go_sem, g9], by simp [go_sem, hwr], u3, J.lt, ⟨p2, n2, c2, e, _, by rw [heap_setB, if_pos rfl, hc2]; rfl, own_above own2' ub (fun i h => by subst h; exact J.lt.1), by simp; omega, ?_, ?_⟩, ?_, J.bs.1, by rw [size_setB]; exact Nat.lt_of_lt_of_le hbs1 u2.size⟩
        · rw [hfold, textR]
          first
            | exact ⟨rfl, rfl⟩
            | exact ⟨rfl, hy⟩
            | exact ⟨rfl, hz⟩
        · intro g hg
          rcases hat with h | h
          · rw [h] at hg; exact hob g hg
          · rw [h] at hg; injection hg with hg; omega
        · refine (row1.keep u2 (fun b' hb h => ?_)).keep ub (fun b' hb h => ?_)
          · injection hb with hb; exact hob b' h hb.symm
          · injection hb with hb; have h1 : bs = b' := hb; have h' : b' = bw := h; omega
      | ok y =>
        obtain ⟨rfl, rfl⟩ := hres
        have hcz : (w1.setB bw (.cells #[.slice p n c, .int .i64 0] T (0, 0))).heap[bw]? = some (.cells #[.slice p n c, .int .i64 0] T (0, 0)) := by rw [heap_setB, if_pos rfl, hc1]; rfl
        have uz : Upd (fun x => x = bw) w1 (w1.setB bw (.cells #[.slice p n c, .int .i64 0] T (0, 0))) := (Upd.refl _ _).setB _ _ (fun _ => rfl)
        replace own1 := own_above own1 uz (fun i h => by subst h; exact J.lt.1)
        replace row1 := row1.keep uz (fun b hb h => by injection hb with hb; have h1 : bs = b := hb; have h' : b = bw := h; omega)
        replace U1 := U1.trans uz
        replace hbs1 : bs < (w1.setB bw (.cells #[.slice p n c, .int .i64 0] T (0, 0))).heap.size := by rw [size_setB]; exact hbs1
        obtain ⟨w1', hw1'⟩ : ∃ w1', w1' = w1.setB bw (.cells #[.slice p n c, .int .i64 0] T (0, 0)) := ⟨_, rfl⟩
        rw [← hw1'] at hcz uz own1 row1 U1 hbs1
        replace ownb : OwnB w1' W.heap.size v b := own_keep ownb uz (fun k hk h => by have h' : k = bw := h; have := (ownb.lt k hk).1; omega)
        have src : BytesAt w1' _ (b) := ownb.at
        have src0 := src
        obtain ⟨v', w2, hrun, own2, hg2, hat⟩ := sl_append_at slByte own1 src.1 31 (u8_one _) (by simp; omega) (by simp [maxLen]; omega) (by have := J.lt.2; have := U1.size; omega)
        have hobw : ∀ k, (Value.slice p n c).ownBlock = some k → n0 ≤ k := fun k hk => (own1.lt k hk).1
        have u2 : Upd (fun i => (Value.slice p n c).ownBlock = some i) w1' w2 := (Upd.refl _ _).grown hg2 (fun k hk _ => hk)
        have own2' : OwnB w2 n0 v' (y ++ b) := by
          unfold OwnB
          rw [List.length_append, List.map_append]
          exact own2
        obtain ⟨p2, n2, c2, rfl⟩ := OwnB.slice own2'
        have hc2 := u2.get hcz (fun h => by have := hobw _ h; have := J.lt; omega)
        simp [go_sem, g0, g8, g9, g10, hwr, hc1, ← hw1', hcz, K_append_ok _ _ _ _ hrun, hc2]
        have u3 : Upd (fun x => x = bw) wb (w2.setB bw (.cells #[.slice p2 n2 c2, .int .i64 0] T (0, 0))) := ((U1.trans' u2 (fun i hi hlt => by have := hobw _ hi; have := J.lt; omega)).setB _ _ (fun _ => rfl))
        have ub : Upd (fun x => x = bw) w2 (w2.setB bw (.cells #[.slice p2 n2 c2, .int .i64 0] T (0, 0))) := (Upd.refl _ _).setB _ _ (fun _ => rfl)
        refine ⟨L.length - (i + 1), by omega, i + 1, rfl, by omega, by simp [go_sem, g0], by simp [go_sem, g8], by simp [go_sem, g9], by simp [go_sem, hwr], u3, J.lt, ⟨p2, n2, c2, 0, _, by rw [heap_setB, if_pos rfl, hc2]; rfl, own_above own2' ub (fun i h => by subst h; exact J.lt.1), by simp; omega, ?_, ?_⟩, ?_, J.bs.1, by rw [size_setB]; exact Nat.lt_of_lt_of_le hbs1 u2.size⟩
        · rw [hfold, textR, ht]
          first
            | exact ⟨rfl, rfl⟩
            | exact ⟨rfl, hy⟩
            | exact ⟨rfl, hz⟩
        · intro g hg
          rcases hat with h | h
          · rw [h] at hg; exact hob g hg
          · rw [h] at hg; injection hg with hg; omega
        · refine (row1.keep u2 (fun b' hb h => ?_)).keep ub (fun b' hb h => ?_)
          · injection hb with hb; exact hob b' h hb.symm
          · injection hb with hb; have h1 : bs = b' := hb; have h' : b' = bw := h; omega
  · have hi' : i = L.length := by omega
    subst hi'
    simp [go_sem, g0, g8, g9, g10]
    rw [List.take_length] at hres
    exact ⟨J.u, J.lt, p, n, c, e, l, hc, own, hlN, hres⟩
end
end Go.Proofs.YtinfdomlpbikaaaGreatDoor
namespace Go.Proofs.YtinfdomlpbikaaaGreatDoor
open Go.Eng Go.Lib
set_option linter.unusedSimpArgs false
set_option linter.unusedVariables false
set_option maxRecDepth 100000
variable {w w0 : World}
/-! ### what may stand in a field -/
structure AskV.ok (a : AskV) : Prop where
  access : 0 ≤ a.access ∧ a.access < 4294967296
  sharing : 0 ≤ a.sharing ∧ a.sharing < 4294967296
  way : 0 ≤ a.way ∧ a.way < 4294967296
  options : 0 ≤ a.options ∧ a.options < 4294967296
  level : 0 ≤ a.level ∧ a.level < 256
  durable : 0 ≤ a.durable ∧ a.durable < 256
  file : 0 ≤ a.file ∧ a.file < 18446744073709551616
  at_ : 0 ≤ a.at_ ∧ a.at_ < 18446744073709551616
  n : 0 ≤ a.n ∧ a.n < 4294967296
  most : 0 ≤ a.most ∧ a.most < 65536
  cls : 0 ≤ a.cls ∧ a.cls < 65536
  size_ : 0 ≤ a.size_ ∧ a.size_ < 18446744073709551616
structure SayV.ok (a : SayV) : Prop where
  dialect : 0 ≤ a.dialect ∧ a.dialect < 65536
  size_ : 0 ≤ a.size_ ∧ a.size_ < 18446744073709551616
  level : 0 ≤ a.level ∧ a.level < 256
  durable : 0 ≤ a.durable ∧ a.durable < 256
  made : 0 ≤ a.made ∧ a.made < 65536
  file : 0 ≤ a.file ∧ a.file < 18446744073709551616
  kind : 0 ≤ a.kind ∧ a.kind < 256
  n : 0 ≤ a.n ∧ a.n < 4294967296
theorem row0 (w : World) (size : Nat) : RowAt w size (.slice none 0 0) 0 [] := ⟨by simp, Or.inl ⟨none, 0, rfl, rfl⟩⟩
theorem AskAt.plain {X : AskV} {A : AskS} (hf : A.f = X.bare) (hd : X.dialects = ⟨none, 0, 0⟩ ∧ A.dia = []) (ht : X.data = ⟨none, 0, 0⟩ ∧ A.dat = []) (hl : X.locks = ⟨none, 0, 0⟩ ∧ A.lok = []) : AskAt w X A := by
  refine ⟨hf, ?_, ?_, ?_, by rw [hd.2]; simp, by rw [ht.2]; simp, by rw [hl.2]; simp⟩
  · rw [hd.1, hd.2]; exact row0 w 1
  · rw [ht.1, ht.2]; exact bytesAt_nil w none 0
  · rw [hl.1, hl.2]; exact row0 w 4
theorem AskS0.load {ba : Nat} {a : AskV} {W : World} (h : AskS0 ba a W) : (Instr.loadAt 34 (.pointer (some ⟨ba, 0, none⟩))).run Tryz.prog W = .ok (.agg a.cells) W := by
  have e := run_loadAgg (P := Tryz.prog) (w := W) (Tryz.isAgg34 W) (Tryz.sizeOf34 W) ba 0 h (by rw [AskV.size]; omega)
  rw [e]
  congr 2
  apply Array.toList_inj.1
  have hl : a.cells.toList.length = 69 := a.row_len
  simp [List.take_of_length_le, hl]
theorem AskAt.sub {a X : AskV} {A S : AskS} (ha : AskAt w a A) (hf : S.f = X.bare) (hd : (X.dialects = ⟨none, 0, 0⟩ ∧ S.dia = []) ∨ (X.dialects = a.dialects ∧ S.dia = A.dia)) (ht : (X.data = ⟨none, 0, 0⟩ ∧ S.dat = []) ∨ (X.data = a.data ∧ S.dat = A.dat)) (hl : (X.locks = ⟨none, 0, 0⟩ ∧ S.lok = []) ∨ (X.locks = a.locks ∧ S.lok = A.lok)) : AskAt w X S := by
  refine ⟨hf, ?_, ?_, ?_, ?_, ?_, ?_⟩
  · rcases hd with ⟨h1, h2⟩ | ⟨h1, h2⟩
    · rw [h1, h2]; exact row0 w 1
    · rw [h1, h2]; exact ha.dia
  · rcases ht with ⟨h1, h2⟩ | ⟨h1, h2⟩
    · rw [h1, h2]; exact bytesAt_nil w none 0
    · rw [h1, h2]; exact ha.dat
  · rcases hl with ⟨h1, h2⟩ | ⟨h1, h2⟩
    · rw [h1, h2]; exact row0 w 4
    · rw [h1, h2]; exact ha.lok
  · rcases hd with ⟨h1, h2⟩ | ⟨h1, h2⟩
    · rw [h2]; simp
    · rw [h2]; exact ha.dl
  · rcases ht with ⟨h1, h2⟩ | ⟨h1, h2⟩
    · rw [h2]; simp
    · rw [h2]; exact ha.tl
  · rcases hl with ⟨h1, h2⟩ | ⟨h1, h2⟩
    · rw [h2]; simp
    · rw [h2]; exact ha.ll
theorem AskAt.nums {a : AskV} {A : AskS} (h : AskAt w a A) : a.dialects.n = A.dia.length ∧ a.data.n = A.dat.length ∧ a.locks.n = A.lok.length := by
  obtain ⟨_, _, h1⟩ := h.dia.len
  obtain ⟨_, _, h2, _⟩ := h.dat.len
  obtain ⟨_, _, h3⟩ := h.lok.len
  injection h1 with _ h1
  injection h2 with _ h2
  injection h3 with _ h3
  exact ⟨h1, h2, h3⟩
theorem num_put {k : Nat} {x : Int} (h0 : 0 ≤ x) (h1 : x < ((256 ^ k : Nat) : Int)) : (numC k).put x = .ok (leB x.toNat k) := by
  simp only [numC]
  rw [if_pos ⟨h0, h1⟩]
theorem seq_put {α β : Type} {C : Codec α} {D : α → Codec β} {x : α} {y : β} {b c : List UInt8} (h1 : C.put x = .ok b) (h2 : (D x).put y = .ok c) : (seqC C D).put (x, y) = .ok (b ++ c) := by
  simp only [seqC, h1, h2]
theorem seq_putE {α β : Type} {C : Codec α} {D : Codec β} {x : α} {y : β} {b : List UInt8} {e : Int} (h1 : C.put x = .ok b) (h2 : D.put y = .error e) : (seqC C fun _ => D).put (x, y) = .error e := by
  simp only [seqC, h1, h2]
theorem Fmt.put_no {S : Type} (F : Fmt S) {s : S} (h : ¬ F.mkS (F.unS s) = s) : F.put s = .error 2 := by
  unfold Fmt.put
  rw [if_neg h]
theorem Fmt.put_ok {S : Type} (F : Fmt S) {s : S} (h : F.mkS (F.unS s) = s) (hp : F.pre s = 0) : F.put s = F.C.put (F.unS s) := by
  unfold Fmt.put
  rw [if_pos h, if_pos hp]
theorem Fmt.put_pre {S : Type} (F : Fmt S) {s : S} (h : F.mkS (F.unS s) = s) (hp : ¬ F.pre s = 0) : F.put s = .error (F.pre s) := by
  unfold Fmt.put
  rw [if_pos h, if_neg hp]
end Go.Proofs.YtinfdomlpbikaaaGreatDoor
namespace Go.Proofs.YtinfdomlpbikaaaGreatDoor
open Go.Eng Go.Lib
set_option linter.unusedSimpArgs false
set_option linter.unusedVariables false
set_option maxRecDepth 100000
variable {w w0 : World}
theorem data_put {l : List UInt8} (h : ¬ 32768 < l.length) : dataC.put ((l.length : Int), l) = .ok (leB l.length 4 ++ l) := by
  have hm : (mostC 4 32768 3).put (l.length : Int) = .ok (leB l.length 4) := by
    have h1 : (l.length : Int) ≤ 32768 := by omega
    show (if decide ((l.length : Int) ≤ 32768) = true then (numC 4).put (l.length : Int) else .error 2) = _
    rw [if_pos (by simpa using h1), num_put (by omega) (by omega)]
    rfl
  have hbp : (bytesC ((l.length : Int)).toNat).put l = .ok l := by
    show (if l.length = ((l.length : Int)).toNat then _ else _) = _
    rw [if_pos (by omega)]
  have h := seq_put (D := fun n => bytesC n.toNat) (y := l) hm hbp
  exact h
structure LockV.ok (x : LockV) : Prop where
  at_ : 0 ≤ x.at_ ∧ x.at_ < 18446744073709551616
  n : 0 ≤ x.n ∧ x.n < 18446744073709551616
  mode : 0 ≤ x.mode ∧ x.mode < 65536
def lockB (x : LockV) : List UInt8 := leB x.at_.toNat 8 ++ (leB x.n.toNat 8 ++ (leB x.mode.toNat 2 ++ leB 0 2))
theorem lockB_len (x : LockV) : (lockB x).length = 20 := by simp [lockB, leB_len]
theorem list_put {α : Type} {C : Codec α} (f : α → List UInt8) : ∀ {L : List α}, (∀ x ∈ L, C.put x = .ok (f x)) → (listC C L.length).put L = .ok (L.flatMap f)
  | [], _ => rfl
  | x :: L, h => by
    show (seqC C fun _ => listC C L.length).put (x, L) = _
    exact seq_put (D := fun _ => listC C L.length) (h x (by simp)) (list_put f (fun y hy => h y (by simp [hy])))
theorem zero2_put : (zeroC 2).put () = .ok (leB 0 2) := by
  show (chkC (numC 2) (fun x => decide (x = 0)) 5).put 0 = _
  rfl
theorem lockC_put {x : LockV} (ok : x.ok) : lockC.put (lockTo x) = .ok (lockB x) :=
  seq_put (D := fun _ => _) (num_put ok.at_.1 ok.at_.2) (seq_put (D := fun _ => _) (num_put ok.n.1 ok.n.2) (seq_put (D := fun _ => _) (num_put ok.mode.1 ok.mode.2) zero2_put))
theorem most_put {k : Nat} {m e x : Int} (h0 : 0 ≤ x) (h1 : x < ((256 ^ k : Nat) : Int)) (hm : x ≤ m) : (mostC k m e).put x = .ok (leB x.toNat k) := by
  show (if decide (x ≤ m) = true then (numC k).put x else .error 2) = _
  rw [if_pos (by simpa using hm), num_put h0 h1]
theorem most_put_no {k : Nat} {m e x : Int} (hm : ¬ x ≤ m) : (mostC k m e).put x = .error 2 := by
  show (if decide (x ≤ m) = true then (numC k).put x else .error 2) = _
  rw [if_neg (by simpa using hm)]
theorem lock_map {L : List LockV} (h : ∀ x ∈ L, x.open_ = 0) : (L.map lockTo).map lockOf = L := by
  rw [List.map_map]
  conv => rhs; rw [← List.map_id L]
  apply List.map_congr_left
  intro x hx
  have := h x hx
  cases x
  simp only at this
  subst this
  rfl
theorem ask10_iff {A : AskS} {f : Int} (h : ({ zeroAS with f := { zeroA with file := f }, lok := A.lok } : AskS) = A) : askF10.mkS (askF10.unS A) = A ↔ ∀ x ∈ A.lok, x.open_ = 0 := by
  have hf : A.f.file = f := by rw [← h]
  constructor
  · intro e x hx
    have hl : (A.lok.map lockTo).map lockOf = A.lok := congrArg AskS.lok e
    rw [← hl] at hx
    obtain ⟨y, _, rfl⟩ := List.mem_map.1 hx
    rfl
  · intro e
    have hl := lock_map e
    conv => rhs; rw [← h]
    show ({ zeroAS with lok := (A.lok.map lockTo).map lockOf, f := { zeroA with file := A.f.file } } : AskS) = _
    rw [hl, hf]
end Go.Proofs.YtinfdomlpbikaaaGreatDoor
namespace Go.Proofs.YtinfdomlpbikaaaGreatDoor
open Go.Eng Go.Lib
set_option linter.unusedSimpArgs false
set_option linter.unusedVariables false
set_option maxRecDepth 100000
variable {w w0 : World}
theorem or_zero (k : IntKind) (hk : k.signed = false) {x y : Int} (hx : 0 ≤ x ∧ x < 2 ^ k.bits) (hy : 0 ≤ y ∧ y < 2 ^ k.bits) :
    (bits .or k x y = 0 ↔ x = 0 ∧ y = 0) ∧ 0 ≤ bits .or k x y ∧ bits .or k x y < 2 ^ k.bits := by
  obtain ⟨a, rfl⟩ := Int.eq_ofNat_of_zero_le hx.1
  obtain ⟨b, rfl⟩ := Int.eq_ofNat_of_zero_le hy.1
  have ha : a < 2 ^ k.bits := by have := hx.2; exact_mod_cast this
  have hb : b < 2 ^ k.bits := by have := hy.2; exact_mod_cast this
  have hl : a ||| b < 2 ^ k.bits := Nat.or_lt_two_pow ha hb
  have e : bits .or k (a : Int) (b : Int) = ((a ||| b : Nat) : Int) := by
    show k.wrap ((BitVec.ofInt k.bits (a : Int) ||| BitVec.ofInt k.bits (b : Int)).toNat : Int) = _
    have e1 : (BitVec.ofInt k.bits (a : Int)).toNat = a := by simp; exact_mod_cast Nat.mod_eq_of_lt ha
    have e2 : (BitVec.ofInt k.bits (b : Int)).toNat = b := by simp; exact_mod_cast Nat.mod_eq_of_lt hb
    rw [BitVec.toNat_or, e1, e2]
    unfold IntKind.wrap
    simp [hk]
    exact_mod_cast Nat.mod_eq_of_lt hl
  rw [e]
  refine ⟨?_, by omega, by exact_mod_cast hl⟩
  rw [show (((a ||| b : Nat) : Int) = 0) ↔ (a ||| b) = 0 from by omega, Nat.or_eq_zero_iff]
  omega
section
variable (k : IntKind) (hk : k.signed = false) {N a b c d e : Int} (hN : (2 : Int) ^ k.bits = N) (ha : 0 ≤ a ∧ a < N) (hb : 0 ≤ b ∧ b < N) (hc : 0 ≤ c ∧ c < N) (hd : 0 ≤ d ∧ d < N) (he : 0 ≤ e ∧ e < N)
include hk hN ha hb
theorem or2b : (bits .or k a b == 0) = decide (a = 0 ∧ b = 0) := by
  subst hN
  have h := or_zero k hk ha hb
  rw [Bool.eq_iff_iff, beq_iff_eq, decide_eq_true_iff]
  exact h.1
include hc
theorem or3b : (bits .or k (bits .or k a b) c == 0) = decide (a = 0 ∧ b = 0 ∧ c = 0) := by
  subst hN
  have h := or_zero k hk ha hb
  have h2 := or_zero k hk h.2 hc
  rw [Bool.eq_iff_iff, beq_iff_eq, decide_eq_true_iff, h2.1, h.1, and_assoc]
include hd he
theorem or5b : (bits .or k (bits .or k (bits .or k (bits .or k a b) c) d) e == 0) = decide (a = 0 ∧ b = 0 ∧ c = 0 ∧ d = 0 ∧ e = 0) := by
  subst hN
  have h := or_zero k hk ha hb
  have h2 := or_zero k hk h.2 hc
  have h3 := or_zero k hk h2.2 hd
  have h4 := or_zero k hk h3.2 he
  rw [Bool.eq_iff_iff, beq_iff_eq, decide_eq_true_iff, h4.1, h3.1, h2.1, h.1, and_assoc, and_assoc, and_assoc]
end
def AskV.noneP (a : AskV) : Prop := a.bare = zeroA ∧ a.dialects.n + a.data.n + a.locks.n = 0
def AskV.bareP (a : AskV) : Prop := a.bare = { zeroA with guid := a.guid, proof := a.proof, user := a.user, share := a.share } ∧ a.data.n = 0 ∧ a.locks.n = 0
def SayV.silentP (a : SayV) : Prop := a.bare = zeroS ∧ a.data.n + a.entries.n = 0
def SayV.emptyP (a : SayV) : Prop := a.bare = { zeroS with dialect := a.dialect, size_ := a.size_, challenge := a.challenge } ∧ a.data.n = 0 ∧ a.entries.n = 0
def CN (w : World) (ba : Nat) (a : AskV) (q : Nat) (acc : Bool) (ρ : Env) (W : World) : Prop :=
  ρ 1 = .pointer (some ⟨ba, 0, none⟩) ∧ ρ q = .bool acc ∧ Upd noB w W ∧ W.heap[ba]? = some (.cells a.cells 34 (0, 0))
def CM (w : World) (ba : Nat) (a : SayV) (q : Nat) (acc : Bool) (ρ : Env) (W : World) : Prop :=
  ρ 1 = .pointer (some ⟨ba, 0, none⟩) ∧ ρ q = .bool acc ∧ Upd noB w W ∧ W.heap[ba]? = some (.cells a.cells 39 (0, 0))
theorem str_nil {s : ByteArray} : s.toList = [] ↔ s.size = 0 := by
  rw [ByteArray.toList_eq]
  constructor
  · intro h; show s.data.size = 0; rw [← Array.length_toList, h]; rfl
  · intro h; exact List.length_eq_zero_iff.1 (by rw [Array.length_toList]; exact h)
theorem str_zero {s : ByteArray} (h : s.size = 0) : s = ByteArray.empty := by apply ByteArray.ext; exact Array.eq_empty_of_size_eq_zero h
structure AskV.strs (a : AskV) : Prop where
  user : a.user.size ≤ 1099511627776
  share : a.share.size ≤ 1099511627776
  name : a.name.size ≤ 1099511627776
  pattern : a.pattern.size ≤ 1099511627776
  after : a.after.size ≤ 1099511627776
set_option maxHeartbeats 4000000 in
theorem none_any {a : AskV} (ok : a.ok) (hl : a.lens) (st : a.strs) : CallP Tryz.prog 35 #[.agg a.cells] w (IffX w a.noneP) := by
  refine call_den (args := [_]) Tryz.func35 rfl rfl (by simp [Tryz.ntmps35]) ?_
  have hu : Upd noB w (w.alloc (.cells a.cells 34)) := (Upd.refl _ _).alloc _
  have hba : (w.alloc (.cells a.cells 34)).heap[w.heap.size]? = some (.cells a.cells 34 (0, 0)) := by rw [heap_alloc, if_pos rfl]
  have wl0 : IntKind.i64.wrap ((a.dialects.n : Int) + a.data.n) = (a.dialects.n : Int) + a.data.n := by have := hl.1; have := hl.2.1; rw [wrap64_id (by omega) (by omega)]
  have wl : IntKind.i64.wrap ((a.dialects.n : Int) + a.data.n + a.locks.n) = (a.dialects.n : Int) + a.data.n + a.locks.n := by have := hl.1; have := hl.2.1; have := hl.2.2; rw [wrap64_id (by omega) (by omega)]
  have hsum : ((a.dialects.n : Int) + a.data.n + a.locks.n == 0) = decide (a.dialects.n + a.data.n + a.locks.n = 0) := by rw [Bool.eq_iff_iff]; simp; omega
  have o0 := or5b .u32 rfl (by decide) ok.access ok.sharing ok.way ok.options ok.n
  have o1 := or2b .u8 rfl (by decide) ok.level ok.durable
  have o2 := or3b .u64 rfl (by decide) ok.file ok.at_ ok.size_
  have o3 := or2b .u16 rfl (by decide) ok.most ok.cls
  have s1 : ¬ 9223372036854775807 < a.user.size + a.share.size := by have := st.user; have := st.share; omega
  have s2 : ¬ 9223372036854775807 < a.user.size + a.share.size + a.name.size := by have := st.user; have := st.share; have := st.name; omega
  have s3 : ¬ 9223372036854775807 < a.user.size + a.share.size + a.name.size + a.pattern.size := by have := st.user; have := st.share; have := st.name; have := st.pattern; omega
  have s4 : ¬ 9223372036854775807 < a.user.size + a.share.size + a.name.size + a.pattern.size + a.after.size := by have := st.user; have := st.share; have := st.name; have := st.pattern; have := st.after; omega
  obtain ⟨acc0, hK0⟩ : ∃ x, x = (decide (a.dialects.n + a.data.n + a.locks.n = 0)) := ⟨_, rfl⟩
  simp [go_sem, wl0, wl]
  generalize w.heap.size = ba at *
  refine opsS_cut 0 (CN w ba a 15 acc0) ?_ ?_
  · simp only [List.take_zero, opsS_nil]
    exact ⟨by simp [go_sem], by simp [go_sem, hK0, natBeq, wl, hsum], hu, hba⟩
  clear hba hu
  rintro ρ W ⟨g1, gp, hu, hba⟩
  simp only [List.drop_zero]
  refine opsS_cut 5 (CN w ba a 20 (acc0 && (a.guid.1 == (zArr 16).1))) ?_ ?_
  · cases acc0 <;> simp [go_sem, CN, g1, gp, hba, hu, natBeq, go_sem]
  clear g1 gp hba hu
  rintro ρ W ⟨g1, gp, hu, hba⟩
  obtain ⟨acc1, hK1⟩ : ∃ x, x = (acc0 && (a.guid.1 == (zArr 16).1)) := ⟨_, rfl⟩
  rw [← hK1] at gp
  simp only [List.drop_succ_cons, List.drop_zero]
  refine opsS_cut 6 (CN w ba a 26 (acc1 && (a.proof.1 == (zArr 32).1))) ?_ ?_
  · cases acc1 <;> simp [go_sem, CN, g1, gp, hba, hu, natBeq, go_sem]
  clear g1 gp hba hu
  rintro ρ W ⟨g1, gp, hu, hba⟩
  obtain ⟨acc2, hK2⟩ : ∃ x, x = (acc1 && (a.proof.1 == (zArr 32).1)) := ⟨_, rfl⟩
  rw [← hK2] at gp
  simp only [List.drop_succ_cons, List.drop_zero]
  refine opsS_cut 17 (CN w ba a 43 (acc2 && ((a.user ++ a.share ++ a.name ++ a.pattern ++ a.after).toList == []))) ?_ ?_
  · cases acc2 <;> simp [go_sem, CN, g1, gp, hba, hu, natBeq, s1, s2, s3, s4, ByteArray.size_append]
  clear g1 gp hba hu
  rintro ρ W ⟨g1, gp, hu, hba⟩
  obtain ⟨acc3, hK3⟩ : ∃ x, x = (acc2 && ((a.user ++ a.share ++ a.name ++ a.pattern ++ a.after).toList == [])) := ⟨_, rfl⟩
  rw [← hK3] at gp
  simp only [List.drop_succ_cons, List.drop_zero]
  refine opsS_cut 17 (CN w ba a 60 (acc3 && (decide (a.access = 0 ∧ a.sharing = 0 ∧ a.way = 0 ∧ a.options = 0 ∧ a.n = 0)))) ?_ ?_
  · cases acc3 <;> simp [go_sem, CN, g1, gp, hba, hu, natBeq, o0]
  clear g1 gp hba hu
  rintro ρ W ⟨g1, gp, hu, hba⟩
  obtain ⟨acc4, hK4⟩ : ∃ x, x = (acc3 && (decide (a.access = 0 ∧ a.sharing = 0 ∧ a.way = 0 ∧ a.options = 0 ∧ a.n = 0))) := ⟨_, rfl⟩
  rw [← hK4] at gp
  simp only [List.drop_succ_cons, List.drop_zero]
  refine opsS_cut 8 (CN w ba a 68 (acc4 && (decide (a.level = 0 ∧ a.durable = 0)))) ?_ ?_
  · cases acc4 <;> simp [go_sem, CN, g1, gp, hba, hu, natBeq, o1]
  clear g1 gp hba hu
  rintro ρ W ⟨g1, gp, hu, hba⟩
  obtain ⟨acc5, hK5⟩ : ∃ x, x = (acc4 && (decide (a.level = 0 ∧ a.durable = 0))) := ⟨_, rfl⟩
  rw [← hK5] at gp
  simp only [List.drop_succ_cons, List.drop_zero]
  refine opsS_cut 11 (CN w ba a 79 (acc5 && (decide (a.file = 0 ∧ a.at_ = 0 ∧ a.size_ = 0)))) ?_ ?_
  · cases acc5 <;> simp [go_sem, CN, g1, gp, hba, hu, natBeq, o2]
  clear g1 gp hba hu
  rintro ρ W ⟨g1, gp, hu, hba⟩
  obtain ⟨acc6, hK6⟩ : ∃ x, x = (acc5 && (decide (a.file = 0 ∧ a.at_ = 0 ∧ a.size_ = 0))) := ⟨_, rfl⟩
  rw [← hK6] at gp
  simp only [List.drop_succ_cons, List.drop_zero]
  refine opsS_cut 8 (CN w ba a 87 (acc6 && (decide (a.most = 0 ∧ a.cls = 0)))) ?_ ?_
  · cases acc6 <;> simp [go_sem, CN, g1, gp, hba, hu, natBeq, o3]
  clear g1 gp hba hu
  rintro ρ W ⟨g1, gp, hu, hba⟩
  obtain ⟨acc7, hK7⟩ : ∃ x, x = (acc6 && (decide (a.most = 0 ∧ a.cls = 0))) := ⟨_, rfl⟩
  rw [← hK7] at gp
  simp only [List.drop_succ_cons, List.drop_zero]
  refine opsS_cut 5 (CN w ba a 92 (acc7 && (!a.on))) ?_ ?_
  · cases acc7 <;> simp [go_sem, CN, g1, gp, hba, hu, natBeq, go_sem]
  clear g1 gp hba hu
  rintro ρ W ⟨g1, gp, hu, hba⟩
  obtain ⟨acc8, hK8⟩ : ∃ x, x = (acc7 && (!a.on)) := ⟨_, rfl⟩
  rw [← hK8] at gp
  simp only [List.drop_succ_cons, List.drop_zero]
  simp [go_sem, gp]
  refine ⟨acc8, rfl, ?_, hu⟩
  constructor
  · intro h
    rw [hK8, Bool.and_eq_true] at h
    obtain ⟨h, e8⟩ := h
    have y_on : a.on = false := by simpa using e8
    rw [hK7, Bool.and_eq_true] at h
    obtain ⟨h, e7⟩ := h
    obtain ⟨y_most, y_cls⟩ := of_decide_eq_true e7
    rw [hK6, Bool.and_eq_true] at h
    obtain ⟨h, e6⟩ := h
    obtain ⟨y_file, y_at_, y_size_⟩ := of_decide_eq_true e6
    rw [hK5, Bool.and_eq_true] at h
    obtain ⟨h, e5⟩ := h
    obtain ⟨y_level, y_durable⟩ := of_decide_eq_true e5
    rw [hK4, Bool.and_eq_true] at h
    obtain ⟨h, e4⟩ := h
    obtain ⟨y_access, y_sharing, y_way, y_options, y_n⟩ := of_decide_eq_true e4
    rw [hK3, Bool.and_eq_true] at h
    obtain ⟨h, e3⟩ := h
    rw [beq_iff_eq, str_nil] at e3
    simp only [ByteArray.size_append] at e3
    have y_user := str_zero (s := a.user) (by omega)
    have y_share := str_zero (s := a.share) (by omega)
    have y_name := str_zero (s := a.name) (by omega)
    have y_pattern := str_zero (s := a.pattern) (by omega)
    have y_after := str_zero (s := a.after) (by omega)
    rw [hK2, Bool.and_eq_true] at h
    obtain ⟨h, e2⟩ := h
    have y_proof := Subtype.ext (beq_iff_eq.1 e2)
    rw [hK1, Bool.and_eq_true] at h
    obtain ⟨h, e1⟩ := h
    have y_guid := Subtype.ext (beq_iff_eq.1 e1)
    have e0 := hK0.symm.trans h
    replace e0 := of_decide_eq_true e0
    refine ⟨?_, e0⟩
    unfold AskV.bare zeroA
    rw [y_guid, y_proof, y_user, y_share, y_access, y_sharing, y_way, y_options, y_level, y_durable, y_file, y_name, y_at_, y_n, y_most, y_pattern, y_after, y_cls, y_size_, y_on]
  · rintro ⟨hf, m0⟩
    unfold AskV.bare zeroA at hf
    injection hf with f_dialects f_guid f_proof f_user f_share f_access f_sharing f_way f_options f_level f_durable f_file f_name f_at_ f_n f_data f_locks f_most f_pattern f_after f_cls f_size_ f_on
    have h0 : acc0 = true := by rw [hK0, decide_eq_true m0]
    have h1 : acc1 = true := by rw [hK1, h0, f_guid]; simp
    have h2 : acc2 = true := by rw [hK2, h1, f_proof]; simp
    have h3 : acc3 = true := by rw [hK3, h2, f_user, f_share, f_name, f_pattern, f_after, str_nil.2 (by simp [ByteArray.size_append])]; rfl
    have h4 : acc4 = true := by rw [hK4, h3, f_access, f_sharing, f_way, f_options, f_n]; rfl
    have h5 : acc5 = true := by rw [hK5, h4, f_level, f_durable]; rfl
    have h6 : acc6 = true := by rw [hK6, h5, f_file, f_at_, f_size_]; rfl
    have h7 : acc7 = true := by rw [hK7, h6, f_most, f_cls]; rfl
    have h8 : acc8 = true := by rw [hK8, h7, f_on]; rfl
    exact h8
set_option maxHeartbeats 4000000 in
theorem silent_any {a : SayV} (ok : a.ok) (hl : a.lens) : CallP Tryz.prog 36 #[.agg a.cells] w (IffX w a.silentP) := by
  refine call_den (args := [_]) Tryz.func36 rfl rfl (by simp [Tryz.ntmps36]) ?_
  have hu : Upd noB w (w.alloc (.cells a.cells 39)) := (Upd.refl _ _).alloc _
  have hba : (w.alloc (.cells a.cells 39)).heap[w.heap.size]? = some (.cells a.cells 39 (0, 0)) := by rw [heap_alloc, if_pos rfl]
  have o0 := or2b .u16 rfl (by decide) ok.dialect ok.made
  have o1 := or2b .u64 rfl (by decide) ok.size_ ok.file
  have o2 := or2b .u8 rfl (by decide) ok.level ok.durable
  have wl : IntKind.i64.wrap ((a.data.n : Int) + a.entries.n) = (a.data.n : Int) + a.entries.n := by have := hl.1; have := hl.2; rw [wrap64_id (by omega) (by omega)]
  have hsum : ((a.data.n : Int) + a.entries.n == 0) = decide (a.data.n + a.entries.n = 0) := by rw [Bool.eq_iff_iff]; simp; omega
  obtain ⟨acc0, hK0⟩ : ∃ x, x = (decide (a.dialect = 0 ∧ a.made = 0)) := ⟨_, rfl⟩
  simp [go_sem, go_sem]
  generalize w.heap.size = ba at *
  refine opsS_cut 0 (CM w ba a 9 acc0) ?_ ?_
  · simp only [List.take_zero, opsS_nil]
    exact ⟨by simp [go_sem], by simp [go_sem, hK0, natBeq, o0], hu, hba⟩
  clear hba hu
  rintro ρ W ⟨g1, gp, hu, hba⟩
  simp only [List.drop_zero]
  refine opsS_cut 7 (CM w ba a 16 (acc0 && (decide (a.size_ = 0 ∧ a.file = 0)))) ?_ ?_
  · cases acc0 <;> simp [go_sem, CM, g1, gp, hba, hu, natBeq, o1]
  clear g1 gp hba hu
  rintro ρ W ⟨g1, gp, hu, hba⟩
  obtain ⟨acc1, hK1⟩ : ∃ x, x = (acc0 && (decide (a.size_ = 0 ∧ a.file = 0))) := ⟨_, rfl⟩
  rw [← hK1] at gp
  simp only [List.drop_succ_cons, List.drop_zero]
  refine opsS_cut 6 (CM w ba a 22 (acc1 && (a.challenge.1 == (zArr 8).1))) ?_ ?_
  · cases acc1 <;> simp [go_sem, CM, g1, gp, hba, hu, natBeq, go_sem]
  clear g1 gp hba hu
  rintro ρ W ⟨g1, gp, hu, hba⟩
  obtain ⟨acc2, hK2⟩ : ∃ x, x = (acc1 && (a.challenge.1 == (zArr 8).1)) := ⟨_, rfl⟩
  rw [← hK2] at gp
  simp only [List.drop_succ_cons, List.drop_zero]
  refine opsS_cut 8 (CM w ba a 30 (acc2 && (decide (a.level = 0 ∧ a.durable = 0)))) ?_ ?_
  · cases acc2 <;> simp [go_sem, CM, g1, gp, hba, hu, natBeq, o2]
  clear g1 gp hba hu
  rintro ρ W ⟨g1, gp, hu, hba⟩
  obtain ⟨acc3, hK3⟩ : ∃ x, x = (acc2 && (decide (a.level = 0 ∧ a.durable = 0))) := ⟨_, rfl⟩
  rw [← hK3] at gp
  simp only [List.drop_succ_cons, List.drop_zero]
  refine opsS_cut 5 (CM w ba a 35 (acc3 && (a.kind == 0))) ?_ ?_
  · cases acc3 <;> simp [go_sem, CM, g1, gp, hba, hu, natBeq, go_sem]
  clear g1 gp hba hu
  rintro ρ W ⟨g1, gp, hu, hba⟩
  obtain ⟨acc4, hK4⟩ : ∃ x, x = (acc3 && (a.kind == 0)) := ⟨_, rfl⟩
  rw [← hK4] at gp
  simp only [List.drop_succ_cons, List.drop_zero]
  refine opsS_cut 10 (CM w ba a 45 (acc4 && (decide (a.data.n + a.entries.n = 0)))) ?_ ?_
  · cases acc4 <;> simp [go_sem, CM, g1, gp, hba, hu, natBeq, wl, hsum]
  clear g1 gp hba hu
  rintro ρ W ⟨g1, gp, hu, hba⟩
  obtain ⟨acc5, hK5⟩ : ∃ x, x = (acc4 && (decide (a.data.n + a.entries.n = 0))) := ⟨_, rfl⟩
  rw [← hK5] at gp
  simp only [List.drop_succ_cons, List.drop_zero]
  refine opsS_cut 5 (CM w ba a 50 (acc5 && (a.n == 0))) ?_ ?_
  · cases acc5 <;> simp [go_sem, CM, g1, gp, hba, hu, natBeq, go_sem]
  clear g1 gp hba hu
  rintro ρ W ⟨g1, gp, hu, hba⟩
  obtain ⟨acc6, hK6⟩ : ∃ x, x = (acc5 && (a.n == 0)) := ⟨_, rfl⟩
  rw [← hK6] at gp
  simp only [List.drop_succ_cons, List.drop_zero]
  refine opsS_cut 5 (CM w ba a 55 (acc6 && (!a.more))) ?_ ?_
  · cases acc6 <;> simp [go_sem, CM, g1, gp, hba, hu, natBeq, go_sem]
  clear g1 gp hba hu
  rintro ρ W ⟨g1, gp, hu, hba⟩
  obtain ⟨acc7, hK7⟩ : ∃ x, x = (acc6 && (!a.more)) := ⟨_, rfl⟩
  rw [← hK7] at gp
  simp only [List.drop_succ_cons, List.drop_zero]
  refine opsS_cut 5 (CM w ba a 60 (acc7 && (!a.gone))) ?_ ?_
  · cases acc7 <;> simp [go_sem, CM, g1, gp, hba, hu, natBeq, go_sem]
  clear g1 gp hba hu
  rintro ρ W ⟨g1, gp, hu, hba⟩
  obtain ⟨acc8, hK8⟩ : ∃ x, x = (acc7 && (!a.gone)) := ⟨_, rfl⟩
  rw [← hK8] at gp
  simp only [List.drop_succ_cons, List.drop_zero]
  simp [go_sem, gp]
  refine ⟨acc8, rfl, ?_, hu⟩
  constructor
  · intro h
    rw [hK8, Bool.and_eq_true] at h
    obtain ⟨h, e8⟩ := h
    have y_gone : a.gone = false := by simpa using e8
    rw [hK7, Bool.and_eq_true] at h
    obtain ⟨h, e7⟩ := h
    have y_more : a.more = false := by simpa using e7
    rw [hK6, Bool.and_eq_true] at h
    obtain ⟨h, e6⟩ := h
    have y_n := beq_iff_eq.1 e6
    rw [hK5, Bool.and_eq_true] at h
    obtain ⟨h, e5⟩ := h
    replace e5 := of_decide_eq_true e5
    rw [hK4, Bool.and_eq_true] at h
    obtain ⟨h, e4⟩ := h
    have y_kind := beq_iff_eq.1 e4
    rw [hK3, Bool.and_eq_true] at h
    obtain ⟨h, e3⟩ := h
    obtain ⟨y_level, y_durable⟩ := of_decide_eq_true e3
    rw [hK2, Bool.and_eq_true] at h
    obtain ⟨h, e2⟩ := h
    have y_challenge := Subtype.ext (beq_iff_eq.1 e2)
    rw [hK1, Bool.and_eq_true] at h
    obtain ⟨h, e1⟩ := h
    obtain ⟨y_size_, y_file⟩ := of_decide_eq_true e1
    have e0 := hK0.symm.trans h
    obtain ⟨y_dialect, y_made⟩ := of_decide_eq_true e0
    refine ⟨?_, e5⟩
    unfold SayV.bare zeroS
    rw [y_dialect, y_size_, y_challenge, y_level, y_durable, y_made, y_file, y_kind, y_n, y_more, y_gone]
  · rintro ⟨hf, m5⟩
    unfold SayV.bare zeroS at hf
    injection hf with f_dialect f_size_ f_challenge f_level f_durable f_made f_file f_kind f_data f_n f_entries f_more f_gone
    have h0 : acc0 = true := by rw [hK0, f_dialect, f_made]; rfl
    have h1 : acc1 = true := by rw [hK1, h0, f_size_, f_file]; rfl
    have h2 : acc2 = true := by rw [hK2, h1, f_challenge]; simp
    have h3 : acc3 = true := by rw [hK3, h2, f_level, f_durable]; rfl
    have h4 : acc4 = true := by rw [hK4, h3, f_kind]; rfl
    have h5 : acc5 = true := by rw [hK5, h4, decide_eq_true m5]; rfl
    have h6 : acc6 = true := by rw [hK6, h5, f_n]; rfl
    have h7 : acc7 = true := by rw [hK7, h6, f_more]; rfl
    have h8 : acc8 = true := by rw [hK8, h7, f_gone]; rfl
    exact h8
set_option maxHeartbeats 4000000 in
theorem bare_any {a : AskV} (ok : a.ok) (hl : a.lens) : CallP Tryz.prog 167 #[.agg a.cells] w (IffX w a.bareP) := by
  refine call_den (args := [_]) Tryz.func167 rfl rfl (by simp [Tryz.ntmps167]) ?_
  have hu : Upd noB w (w.alloc (.cells a.cells 34)) := (Upd.refl _ _).alloc _
  have hba : (w.alloc (.cells a.cells 34)).heap[w.heap.size]? = some (.cells a.cells 34 (0, 0)) := by rw [heap_alloc, if_pos rfl]
  have o0 := or5b .u32 rfl (by decide) ok.access ok.sharing ok.way ok.options ok.n
  have o1 := or2b .u8 rfl (by decide) ok.level ok.durable
  have o2 := or3b .u64 rfl (by decide) ok.file ok.at_ ok.size_
  have l_data : ((a.data.n : Int) == 0) = decide (a.data.n = 0) := by rw [Bool.eq_iff_iff]; simp
  have l_locks : ((a.locks.n : Int) == 0) = decide (a.locks.n = 0) := by rw [Bool.eq_iff_iff]; simp
  have o3 := or2b .u16 rfl (by decide) ok.most ok.cls
  obtain ⟨acc0, hK0⟩ : ∃ x, x = (decide (a.access = 0 ∧ a.sharing = 0 ∧ a.way = 0 ∧ a.options = 0 ∧ a.n = 0)) := ⟨_, rfl⟩
  simp [go_sem, go_sem]
  generalize w.heap.size = ba at *
  refine opsS_cut 0 (CN w ba a 18 acc0) ?_ ?_
  · simp only [List.take_zero, opsS_nil]
    exact ⟨by simp [go_sem], by simp [go_sem, hK0, natBeq, o0], hu, hba⟩
  clear hba hu
  rintro ρ W ⟨g1, gp, hu, hba⟩
  simp only [List.drop_zero]
  refine opsS_cut 7 (CN w ba a 25 (acc0 && (decide (a.level = 0 ∧ a.durable = 0)))) ?_ ?_
  · cases acc0 <;> simp [go_sem, CN, g1, gp, hba, hu, natBeq, o1]
  clear g1 gp hba hu
  rintro ρ W ⟨g1, gp, hu, hba⟩
  obtain ⟨acc1, hK1⟩ : ∃ x, x = (acc0 && (decide (a.level = 0 ∧ a.durable = 0))) := ⟨_, rfl⟩
  rw [← hK1] at gp
  simp only [List.drop_succ_cons, List.drop_zero]
  refine opsS_cut 11 (CN w ba a 36 (acc1 && (decide (a.file = 0 ∧ a.at_ = 0 ∧ a.size_ = 0)))) ?_ ?_
  · cases acc1 <;> simp [go_sem, CN, g1, gp, hba, hu, natBeq, o2]
  clear g1 gp hba hu
  rintro ρ W ⟨g1, gp, hu, hba⟩
  obtain ⟨acc2, hK2⟩ : ∃ x, x = (acc1 && (decide (a.file = 0 ∧ a.at_ = 0 ∧ a.size_ = 0))) := ⟨_, rfl⟩
  rw [← hK2] at gp
  simp only [List.drop_succ_cons, List.drop_zero]
  refine opsS_cut 5 (CN w ba a 41 (acc2 && (a.name.toList == []))) ?_ ?_
  · cases acc2 <;> simp [go_sem, CN, g1, gp, hba, hu, natBeq, go_sem]
  clear g1 gp hba hu
  rintro ρ W ⟨g1, gp, hu, hba⟩
  obtain ⟨acc3, hK3⟩ : ∃ x, x = (acc2 && (a.name.toList == [])) := ⟨_, rfl⟩
  rw [← hK3] at gp
  simp only [List.drop_succ_cons, List.drop_zero]
  refine opsS_cut 6 (CN w ba a 47 (acc3 && (decide (a.data.n = 0)))) ?_ ?_
  · cases acc3 <;> simp [go_sem, CN, g1, gp, hba, hu, natBeq, l_data]
  clear g1 gp hba hu
  rintro ρ W ⟨g1, gp, hu, hba⟩
  obtain ⟨acc4, hK4⟩ : ∃ x, x = (acc3 && (decide (a.data.n = 0))) := ⟨_, rfl⟩
  rw [← hK4] at gp
  simp only [List.drop_succ_cons, List.drop_zero]
  refine opsS_cut 6 (CN w ba a 53 (acc4 && (decide (a.locks.n = 0)))) ?_ ?_
  · cases acc4 <;> simp [go_sem, CN, g1, gp, hba, hu, natBeq, l_locks]
  clear g1 gp hba hu
  rintro ρ W ⟨g1, gp, hu, hba⟩
  obtain ⟨acc5, hK5⟩ : ∃ x, x = (acc4 && (decide (a.locks.n = 0))) := ⟨_, rfl⟩
  rw [← hK5] at gp
  simp only [List.drop_succ_cons, List.drop_zero]
  refine opsS_cut 8 (CN w ba a 61 (acc5 && (decide (a.most = 0 ∧ a.cls = 0)))) ?_ ?_
  · cases acc5 <;> simp [go_sem, CN, g1, gp, hba, hu, natBeq, o3]
  clear g1 gp hba hu
  rintro ρ W ⟨g1, gp, hu, hba⟩
  obtain ⟨acc6, hK6⟩ : ∃ x, x = (acc5 && (decide (a.most = 0 ∧ a.cls = 0))) := ⟨_, rfl⟩
  rw [← hK6] at gp
  simp only [List.drop_succ_cons, List.drop_zero]
  refine opsS_cut 5 (CN w ba a 66 (acc6 && (a.pattern.toList == []))) ?_ ?_
  · cases acc6 <;> simp [go_sem, CN, g1, gp, hba, hu, natBeq, go_sem]
  clear g1 gp hba hu
  rintro ρ W ⟨g1, gp, hu, hba⟩
  obtain ⟨acc7, hK7⟩ : ∃ x, x = (acc6 && (a.pattern.toList == [])) := ⟨_, rfl⟩
  rw [← hK7] at gp
  simp only [List.drop_succ_cons, List.drop_zero]
  refine opsS_cut 5 (CN w ba a 71 (acc7 && (a.after.toList == []))) ?_ ?_
  · cases acc7 <;> simp [go_sem, CN, g1, gp, hba, hu, natBeq, go_sem]
  clear g1 gp hba hu
  rintro ρ W ⟨g1, gp, hu, hba⟩
  obtain ⟨acc8, hK8⟩ : ∃ x, x = (acc7 && (a.after.toList == [])) := ⟨_, rfl⟩
  rw [← hK8] at gp
  simp only [List.drop_succ_cons, List.drop_zero]
  refine opsS_cut 5 (CN w ba a 76 (acc8 && (!a.on))) ?_ ?_
  · cases acc8 <;> simp [go_sem, CN, g1, gp, hba, hu, natBeq, go_sem]
  clear g1 gp hba hu
  rintro ρ W ⟨g1, gp, hu, hba⟩
  obtain ⟨acc9, hK9⟩ : ∃ x, x = (acc8 && (!a.on)) := ⟨_, rfl⟩
  rw [← hK9] at gp
  simp only [List.drop_succ_cons, List.drop_zero]
  simp [go_sem, gp]
  refine ⟨acc9, rfl, ?_, hu⟩
  constructor
  · intro h
    rw [hK9, Bool.and_eq_true] at h
    obtain ⟨h, e9⟩ := h
    have y_on : a.on = false := by simpa using e9
    rw [hK8, Bool.and_eq_true] at h
    obtain ⟨h, e8⟩ := h
    have y_after := str_zero (str_nil.1 (beq_iff_eq.1 e8))
    rw [hK7, Bool.and_eq_true] at h
    obtain ⟨h, e7⟩ := h
    have y_pattern := str_zero (str_nil.1 (beq_iff_eq.1 e7))
    rw [hK6, Bool.and_eq_true] at h
    obtain ⟨h, e6⟩ := h
    obtain ⟨y_most, y_cls⟩ := of_decide_eq_true e6
    rw [hK5, Bool.and_eq_true] at h
    obtain ⟨h, e5⟩ := h
    replace e5 := of_decide_eq_true e5
    rw [hK4, Bool.and_eq_true] at h
    obtain ⟨h, e4⟩ := h
    replace e4 := of_decide_eq_true e4
    rw [hK3, Bool.and_eq_true] at h
    obtain ⟨h, e3⟩ := h
    have y_name := str_zero (str_nil.1 (beq_iff_eq.1 e3))
    rw [hK2, Bool.and_eq_true] at h
    obtain ⟨h, e2⟩ := h
    obtain ⟨y_file, y_at_, y_size_⟩ := of_decide_eq_true e2
    rw [hK1, Bool.and_eq_true] at h
    obtain ⟨h, e1⟩ := h
    obtain ⟨y_level, y_durable⟩ := of_decide_eq_true e1
    have e0 := hK0.symm.trans h
    obtain ⟨y_access, y_sharing, y_way, y_options, y_n⟩ := of_decide_eq_true e0
    refine ⟨?_, e4, e5⟩
    unfold AskV.bare zeroA
    rw [y_access, y_sharing, y_way, y_options, y_level, y_durable, y_file, y_name, y_at_, y_n, y_most, y_pattern, y_after, y_cls, y_size_, y_on]
  · rintro ⟨hf, m4, m5⟩
    unfold AskV.bare zeroA at hf
    injection hf with f_dialects f_guid f_proof f_user f_share f_access f_sharing f_way f_options f_level f_durable f_file f_name f_at_ f_n f_data f_locks f_most f_pattern f_after f_cls f_size_ f_on
    have h0 : acc0 = true := by rw [hK0, f_access, f_sharing, f_way, f_options, f_n]; rfl
    have h1 : acc1 = true := by rw [hK1, h0, f_level, f_durable]; rfl
    have h2 : acc2 = true := by rw [hK2, h1, f_file, f_at_, f_size_]; rfl
    have h3 : acc3 = true := by rw [hK3, h2, f_name, str_nil.2 rfl]; rfl
    have h4 : acc4 = true := by rw [hK4, h3, decide_eq_true m4]; rfl
    have h5 : acc5 = true := by rw [hK5, h4, decide_eq_true m5]; rfl
    have h6 : acc6 = true := by rw [hK6, h5, f_most, f_cls]; rfl
    have h7 : acc7 = true := by rw [hK7, h6, f_pattern, str_nil.2 rfl]; rfl
    have h8 : acc8 = true := by rw [hK8, h7, f_after, str_nil.2 rfl]; rfl
    have h9 : acc9 = true := by rw [hK9, h8, f_on]; rfl
    exact h9
set_option maxHeartbeats 4000000 in
theorem empty_any {a : SayV} (ok : a.ok) (hl : a.lens) : CallP Tryz.prog 156 #[.agg a.cells] w (IffX w a.emptyP) := by
  refine call_den (args := [_]) Tryz.func156 rfl rfl (by simp [Tryz.ntmps156]) ?_
  have hu : Upd noB w (w.alloc (.cells a.cells 39)) := (Upd.refl _ _).alloc _
  have hba : (w.alloc (.cells a.cells 39)).heap[w.heap.size]? = some (.cells a.cells 39 (0, 0)) := by rw [heap_alloc, if_pos rfl]
  have o0 := or2b .u8 rfl (by decide) ok.level ok.durable
  have l_data : ((a.data.n : Int) == 0) = decide (a.data.n = 0) := by rw [Bool.eq_iff_iff]; simp
  have l_entries : ((a.entries.n : Int) == 0) = decide (a.entries.n = 0) := by rw [Bool.eq_iff_iff]; simp
  obtain ⟨acc0, hK0⟩ : ∃ x, x = (decide (a.level = 0 ∧ a.durable = 0)) := ⟨_, rfl⟩
  simp [go_sem, go_sem]
  generalize w.heap.size = ba at *
  refine opsS_cut 0 (CM w ba a 9 acc0) ?_ ?_
  · simp only [List.take_zero, opsS_nil]
    exact ⟨by simp [go_sem], by simp [go_sem, hK0, natBeq, o0], hu, hba⟩
  clear hba hu
  rintro ρ W ⟨g1, gp, hu, hba⟩
  simp only [List.drop_zero]
  refine opsS_cut 4 (CM w ba a 13 (acc0 && (a.made == 0))) ?_ ?_
  · cases acc0 <;> simp [go_sem, CM, g1, gp, hba, hu, natBeq, go_sem]
  clear g1 gp hba hu
  rintro ρ W ⟨g1, gp, hu, hba⟩
  obtain ⟨acc1, hK1⟩ : ∃ x, x = (acc0 && (a.made == 0)) := ⟨_, rfl⟩
  rw [← hK1] at gp
  simp only [List.drop_succ_cons, List.drop_zero]
  refine opsS_cut 5 (CM w ba a 18 (acc1 && (a.file == 0))) ?_ ?_
  · cases acc1 <;> simp [go_sem, CM, g1, gp, hba, hu, natBeq, go_sem]
  clear g1 gp hba hu
  rintro ρ W ⟨g1, gp, hu, hba⟩
  obtain ⟨acc2, hK2⟩ : ∃ x, x = (acc1 && (a.file == 0)) := ⟨_, rfl⟩
  rw [← hK2] at gp
  simp only [List.drop_succ_cons, List.drop_zero]
  refine opsS_cut 5 (CM w ba a 23 (acc2 && (a.kind == 0))) ?_ ?_
  · cases acc2 <;> simp [go_sem, CM, g1, gp, hba, hu, natBeq, go_sem]
  clear g1 gp hba hu
  rintro ρ W ⟨g1, gp, hu, hba⟩
  obtain ⟨acc3, hK3⟩ : ∃ x, x = (acc2 && (a.kind == 0)) := ⟨_, rfl⟩
  rw [← hK3] at gp
  simp only [List.drop_succ_cons, List.drop_zero]
  refine opsS_cut 6 (CM w ba a 29 (acc3 && (decide (a.data.n = 0)))) ?_ ?_
  · cases acc3 <;> simp [go_sem, CM, g1, gp, hba, hu, natBeq, l_data]
  clear g1 gp hba hu
  rintro ρ W ⟨g1, gp, hu, hba⟩
  obtain ⟨acc4, hK4⟩ : ∃ x, x = (acc3 && (decide (a.data.n = 0))) := ⟨_, rfl⟩
  rw [← hK4] at gp
  simp only [List.drop_succ_cons, List.drop_zero]
  refine opsS_cut 5 (CM w ba a 34 (acc4 && (a.n == 0))) ?_ ?_
  · cases acc4 <;> simp [go_sem, CM, g1, gp, hba, hu, natBeq, go_sem]
  clear g1 gp hba hu
  rintro ρ W ⟨g1, gp, hu, hba⟩
  obtain ⟨acc5, hK5⟩ : ∃ x, x = (acc4 && (a.n == 0)) := ⟨_, rfl⟩
  rw [← hK5] at gp
  simp only [List.drop_succ_cons, List.drop_zero]
  refine opsS_cut 6 (CM w ba a 40 (acc5 && (decide (a.entries.n = 0)))) ?_ ?_
  · cases acc5 <;> simp [go_sem, CM, g1, gp, hba, hu, natBeq, l_entries]
  clear g1 gp hba hu
  rintro ρ W ⟨g1, gp, hu, hba⟩
  obtain ⟨acc6, hK6⟩ : ∃ x, x = (acc5 && (decide (a.entries.n = 0))) := ⟨_, rfl⟩
  rw [← hK6] at gp
  simp only [List.drop_succ_cons, List.drop_zero]
  refine opsS_cut 5 (CM w ba a 45 (acc6 && (!a.more))) ?_ ?_
  · cases acc6 <;> simp [go_sem, CM, g1, gp, hba, hu, natBeq, go_sem]
  clear g1 gp hba hu
  rintro ρ W ⟨g1, gp, hu, hba⟩
  obtain ⟨acc7, hK7⟩ : ∃ x, x = (acc6 && (!a.more)) := ⟨_, rfl⟩
  rw [← hK7] at gp
  simp only [List.drop_succ_cons, List.drop_zero]
  refine opsS_cut 5 (CM w ba a 50 (acc7 && (!a.gone))) ?_ ?_
  · cases acc7 <;> simp [go_sem, CM, g1, gp, hba, hu, natBeq, go_sem]
  clear g1 gp hba hu
  rintro ρ W ⟨g1, gp, hu, hba⟩
  obtain ⟨acc8, hK8⟩ : ∃ x, x = (acc7 && (!a.gone)) := ⟨_, rfl⟩
  rw [← hK8] at gp
  simp only [List.drop_succ_cons, List.drop_zero]
  simp [go_sem, gp]
  refine ⟨acc8, rfl, ?_, hu⟩
  constructor
  · intro h
    rw [hK8, Bool.and_eq_true] at h
    obtain ⟨h, e8⟩ := h
    have y_gone : a.gone = false := by simpa using e8
    rw [hK7, Bool.and_eq_true] at h
    obtain ⟨h, e7⟩ := h
    have y_more : a.more = false := by simpa using e7
    rw [hK6, Bool.and_eq_true] at h
    obtain ⟨h, e6⟩ := h
    replace e6 := of_decide_eq_true e6
    rw [hK5, Bool.and_eq_true] at h
    obtain ⟨h, e5⟩ := h
    have y_n := beq_iff_eq.1 e5
    rw [hK4, Bool.and_eq_true] at h
    obtain ⟨h, e4⟩ := h
    replace e4 := of_decide_eq_true e4
    rw [hK3, Bool.and_eq_true] at h
    obtain ⟨h, e3⟩ := h
    have y_kind := beq_iff_eq.1 e3
    rw [hK2, Bool.and_eq_true] at h
    obtain ⟨h, e2⟩ := h
    have y_file := beq_iff_eq.1 e2
    rw [hK1, Bool.and_eq_true] at h
    obtain ⟨h, e1⟩ := h
    have y_made := beq_iff_eq.1 e1
    have e0 := hK0.symm.trans h
    obtain ⟨y_level, y_durable⟩ := of_decide_eq_true e0
    refine ⟨?_, e4, e6⟩
    unfold SayV.bare zeroS
    rw [y_level, y_durable, y_made, y_file, y_kind, y_n, y_more, y_gone]
  · rintro ⟨hf, m4, m6⟩
    unfold SayV.bare zeroS at hf
    injection hf with f_dialect f_size_ f_challenge f_level f_durable f_made f_file f_kind f_data f_n f_entries f_more f_gone
    have h0 : acc0 = true := by rw [hK0, f_level, f_durable]; rfl
    have h1 : acc1 = true := by rw [hK1, h0, f_made]; rfl
    have h2 : acc2 = true := by rw [hK2, h1, f_file]; rfl
    have h3 : acc3 = true := by rw [hK3, h2, f_kind]; rfl
    have h4 : acc4 = true := by rw [hK4, h3, decide_eq_true m4]; rfl
    have h5 : acc5 = true := by rw [hK5, h4, f_n]; rfl
    have h6 : acc6 = true := by rw [hK6, h5, decide_eq_true m6]; rfl
    have h7 : acc7 = true := by rw [hK7, h6, f_more]; rfl
    have h8 : acc8 = true := by rw [hK8, h7, f_gone]; rfl
    exact h8
end Go.Proofs.YtinfdomlpbikaaaGreatDoor
namespace Go.Proofs
open Go.Shelf
def Tryz.growB_ren : Go.Shelf.Ren := ⟨fun | 4 => 170 | n => n, fun | 22 => 31 | 25 => 5 | 3 => 3 | 4 => 4 | 9 => 9 | 20 => 20 | 0 => 0 | n => n, fun | n => n⟩
theorem Tryz.growB : Go.Proofs.Lays8.n4 Tryz.prog Tryz.growB_ren := {
  mixed := by kernel_rfl
  f4 := ⟨Tryz.f170.name, by decide, Tryz.func170.trans (congrArg some (by kernel_rfl))⟩
  t0 := Tryz.underlying0
  a0 := Tryz.isAgg0
  z0 := Tryz.sizeOf0
  v0 := Tryz.zeroValue0
  t3 := Tryz.underlying3
  a3 := Tryz.isAgg3
  z3 := Tryz.sizeOf3
  v3 := Tryz.zeroValue3
  t4 := Tryz.underlying4
  a4 := Tryz.isAgg4
  z4 := Tryz.sizeOf4
  v4 := Tryz.zeroValue4
  t9 := Tryz.underlying9
  a9 := Tryz.isAgg9
  z9 := Tryz.sizeOf9
  v9 := Tryz.zeroValue9
  t20 := Tryz.underlying20
  a20 := Tryz.isAgg20
  z20 := Tryz.sizeOf20
  v20 := Tryz.zeroValue20
  t22 := Tryz.underlying31
  a22 := Tryz.isAgg31
  z22 := Tryz.sizeOf31
  v22 := Tryz.zeroValue31 }
end Go.Proofs
namespace Go.Proofs.YtinfdomlpbikaaaGreatDoor
open Go.Eng Go.Lib
set_option linter.unusedSimpArgs false
set_option linter.unusedVariables false
set_option maxRecDepth 100000
variable {w w0 : World}
def EqI {α : Type} (w : World) (va vb : Value) (L M : List α) (m : Nat) (ρ : Env) (w' : World) : Prop :=
  ∃ k : Nat, m = L.length - k ∧ k ≤ L.length ∧ L.take k = M.take k ∧ ρ 0 = va ∧ ρ 1 = vb ∧ ρ 12 = .int .i64 L.length ∧ ρ 13 = .int .i64 k ∧ Upd noB w w'
theorem sliceEq_any {va vb : Value} {L M : List Int} (ra : RowAt w 1 va L.length (L.map u16V)) (rb : RowAt w 1 vb M.length (M.map u16V)) (hb : L.length ≤ 9223372036854775806) : CallP Tryz.prog 166 #[va, vb] w (CmpR w L M) := by
  obtain ⟨pa, ca, rfl⟩ := ra.len
  obtain ⟨pb, cb, rfl⟩ := rb.len
  refine call_den (args := [_, _]) Tryz.func166 rfl rfl (by simp [Tryz.ntmps166]) ?_
  by_cases hlen : ¬ L.length = M.length
  · have hlen' : ¬ (L.length : Int) = M.length := by omega
    simp [go_sem, hlen, hlen']
    exact ⟨false, rfl, by simp; intro e; exact hlen (by rw [e]), Upd.refl _ _⟩
  replace hlen : L.length = M.length := Decidable.not_not.1 hlen
  simp [go_sem, hlen]
  refine den_loop (EqI w (.slice pa L.length ca) (.slice pb M.length cb) L M) L.length ?_ ?_
  · exact ⟨0, rfl, Nat.zero_le _, rfl, by simp [go_sem, hlen], by simp [go_sem], by simp [go_sem, hlen], by simp [go_sem], Upd.refl _ _⟩
  rintro m ρ w' ⟨k, rfl, hk, htk, h0, h1, h12, h13, hu⟩
  by_cases hlt : k < L.length
  · have hlt2 : k < M.length := by omega
    have hud : Upd noB w w'.drew := hu.drew
    obtain ⟨x, hx⟩ : ∃ x, x = L[k] := ⟨_, rfl⟩
    obtain ⟨y, hy⟩ : ∃ y, y = M[k] := ⟨_, rfl⟩
    obtain ⟨qa, ia, la, ka⟩ := (ra.keep hud (by simp [noB])).at1 (P := Tryz.prog) (t := 29) (e := 22) Tryz.underlying29 Tryz.sizeOf22 Tryz.isAgg22 k hlt (u16V x) (by rw [List.getElem?_map, List.getElem?_eq_getElem hlt, ← hx]; rfl)
    obtain ⟨qb, ib, lb, kb⟩ := (rb.keep hud (by simp [noB])).at1 (P := Tryz.prog) (t := 29) (e := 22) Tryz.underlying29 Tryz.sizeOf22 Tryz.isAgg22 k hlt2 (u16V y) (by rw [List.getElem?_map, List.getElem?_eq_getElem hlt2, ← hy]; rfl)
    rw [← hlen] at rb
    simp only [u16V] at la lb
    have hwr : IntKind.i64.wrap ((k : Int) + 1) = ((k + 1 : Nat) : Int) := wrap64_id (by omega) (by omega)
    simp [go_sem, h0, h1, h12, h13, hlt]
    refine draw_script [.pure 0, .pure 1, .pure 4, .pure 5, .still [2, 3, 6, 7], .one 8] (by kernel_rfl) (by kernel_rfl) (by kernel_rfl) ?_
    by_cases hxy : x = y
    · skip
      simp [go_sem, h0, h1, h13, hlt, ia, ib, Q_load_fix (W := fun _ : Unit => w'.drew) (fun _ => la), Q_load_fix (W := fun _ : Unit => w'.drew) (fun _ => lb), hxy, hwr]
      exact ⟨L.length - (k + 1), by omega, k + 1, rfl, by omega, take_eq htk hlt hlt2 (by rw [← hx, ← hy, hxy]), by simp [go_sem, h0], by simp [go_sem, h1], by simp [go_sem, h12], by simp [go_sem, hwr], hud⟩
    · skip
      simp [go_sem, h0, h1, h13, hlt, ia, ib, Q_load_fix (W := fun _ : Unit => w'.drew) (fun _ => la), Q_load_fix (W := fun _ : Unit => w'.drew) (fun _ => lb), hxy, hwr]
      refine ⟨false, rfl, ?_, hud⟩
      simp
      intro e
      subst e
      exact hxy (by rw [hx, hy])
  · have hk' : k = L.length := by omega
    subst hk'
    simp [go_sem, h0, h1, h12, h13]
    refine ⟨true, rfl, ?_, hu⟩
    simp
    rw [List.take_of_length_le (Nat.le_refl _), List.take_of_length_le (by omega)] at htk
    exact htk
theorem cells_own {b cap : Nat} {c : Array Value} (hb : w.heap[b]? = some (.cells c 5 (0, 0))) (hc : c.size = cap) (hmax : cap ≤ maxLen) (h8 : ∀ u ∈ c.toList, IsU8 u) : OwnB w b (.slice (some ⟨b, 0, none⟩) 0 cap) [] :=
  ⟨⟨by simp, Or.inr ⟨b, cap, c, rfl, Nat.le_refl _, hb, Nat.zero_le _, hmax, by omega, by simp⟩⟩, full_cells hb (fun _ => h8)⟩
theorem growB_any {n : Nat} (h0 : 0 < n) (hn : n ≤ 1099511627776) : CallP Tryz.prog 170 #[.slice none 0 0, .int .i64 n] w (fun v w' => Upd noB w w' ∧ OwnB w' w.heap.size v []) := by
  obtain ⟨i0, z, hi0, hz0, hs0, hb0, hzs⟩ := slByte.info
  obtain rfl : z = .int .u8 0 := Option.some.inj (hz0.symm.trans (zByte i0 hi0))
  refine Calls.mono (Any8.slices_Grow_grow Tryz.growB i0 (.int .u8 0) hi0 hz0 (by omega) none 0 0 n [] w (Nat.le_refl _) (by omega) (by rw [hb0]; omega) (by omega) (by simp) (fun _ => rfl) (fun a h => by cases h)) ?_
  rintro e w' ⟨rfl, rfl⟩
  have g1 := grownCap_ge w (0 + n) 0 5
  have g2 := grownCap_le_maxLen w (0 + n) 0 5 (by simp [maxLen]; omega)
  refine ⟨_, rfl, ((Upd.refl _ _).drew).alloc _, ?_⟩
  have e : (#[] ++ Builtin.zeroCells (Value.int IntKind.u8 0).cells (0 + n - 0) ++ Builtin.zeroCells (Value.int IntKind.u8 0).cells (grownCap w (0 + n) 0 5 - (0 + n)) : Array Value).size = grownCap w (0 + n) 0 5 := by
    simp only [Array.size_append, size_zeroCells, hzs]
    simp
    rw [Nat.zero_add] at g1
    omega
  refine cells_own (w := w.drew.alloc (.cells (#[] ++ Builtin.zeroCells (Value.int IntKind.u8 0).cells (0 + n - 0) ++ Builtin.zeroCells (Value.int IntKind.u8 0).cells (grownCap w (0 + n) 0 5 - (0 + n))) 5)) (b := w.heap.size) ?_ e g2 ?_
  rotate_left
  · intro u hu
    simp only [Array.toList_append, List.mem_append] at hu
    rcases hu with (hu | hu) | hu
    · cases hu
    · exact zeros_u8 _ u hu
    · exact zeros_u8 _ u hu
  rw [heap_alloc]
  exact if_pos rfl
/-- the parts, as a row of lists of bytes -/
structure Parts (w : World) (bs : Nat) (V : List Value) (L : List (List UInt8)) : Prop where
  row : RowAt w 1 (.slice (some ⟨bs, 0, none⟩) V.length V.length) V.length V
  len : V.length = L.length
  at_ : ∀ (i : Nat) (v : Value) (l : List UInt8), V[i]? = some v → L[i]? = some l → BytesAt w v l
theorem Parts.keep0 {w' : World} {bs : Nat} {V : List Value} {L : List (List UInt8)} (h : Parts w bs V L) (u : Upd noB w w') : Parts w' bs V L := ⟨h.row.keep u (fun _ _ h => h), h.len, fun i v l h1 h2 => (h.at_ i v l h1 h2).keep0 u⟩
def sumL (L : List (List UInt8)) : Nat := (L.map List.length).sum
theorem sumL_take {L : List (List UInt8)} {i : Nat} {l : List UInt8} (h : L[i]? = some l) : sumL (L.take (i + 1)) = sumL (L.take i) + l.length := by
  obtain ⟨hi, he⟩ := List.getElem?_eq_some_iff.1 h
  unfold sumL
  rw [List.take_succ_eq_append_getElem hi, List.map_append, List.sum_append, he]
  simp
theorem sumL_le (L : List (List UInt8)) (i : Nat) : sumL (L.take i) ≤ sumL L := by
  conv => rhs; rw [← List.take_append_drop i L]
  unfold sumL
  rw [List.map_append, List.sum_append]
  omega
theorem flat_take {L : List (List UInt8)} {i : Nat} {l : List UInt8} (h : L[i]? = some l) : (L.take (i + 1)).flatten = (L.take i).flatten ++ l := by
  obtain ⟨hi, he⟩ := List.getElem?_eq_some_iff.1 h
  rw [List.take_succ_eq_append_getElem hi, List.flatten_append, he]
  simp
theorem flat_len (L : List (List UInt8)) : L.flatten.length = sumL L := List.length_flatten
def CcI (w : World) (bs : Nat) (V : List Value) (L : List (List UInt8)) (m : Nat) (ρ : Env) (W : World) : Prop :=
  ∃ k : Nat, m = L.length - k ∧ k ≤ L.length ∧ ρ 0 = .slice (some ⟨bs, 0, none⟩) V.length V.length ∧ ρ 3 = .int .i64 (sumL (L.take k)) ∧ ρ 9 = .slice (some ⟨bs, 0, none⟩) V.length V.length ∧ ρ 10 = .int .i64 L.length ∧ ρ 11 = .int .i64 k ∧ Upd noB w W
def CcJ (w : World) (bs : Nat) (V : List Value) (L : List (List UInt8)) (m : Nat) (ρ : Env) (W : World) : Prop :=
  ∃ (k : Nat) (v : Value), m = L.length - k ∧ k ≤ L.length ∧ ρ 6 = v ∧ ρ 25 = .slice (some ⟨bs, 0, none⟩) V.length V.length ∧ ρ 26 = .int .i64 L.length ∧ ρ 27 = .int .i64 k ∧ Upd noB w W ∧ OwnB W w.heap.size v (L.take k).flatten
set_option maxHeartbeats 2000000 in
theorem concat_any {bs : Nat} {V : List Value} {L : List (List UInt8)} (hp : Parts w bs V L) (h0 : 0 < sumL L) (h1 : sumL L ≤ 1099511627776) (hn : L.length ≤ 1099511627776) :
    CallP Tryz.prog 150 #[.slice (some ⟨bs, 0, none⟩) V.length V.length] w (fun v w' => Upd noB w w' ∧ OwnB w' w.heap.size v L.flatten) := by
  refine call_den (args := [_]) Tryz.func150 rfl rfl (by simp [Tryz.ntmps150]) ?_
  simp [go_sem]
  refine den_loop (CcI w bs V L) L.length ?_ ?_
  · exact ⟨0, rfl, Nat.zero_le _, by simp [go_sem], by simp [go_sem, sumL], by simp [go_sem], by simp [go_sem, hp.len], by simp [go_sem], Upd.refl _ _⟩
  rintro m ρ W ⟨k, rfl, hk, g0, g3, g9, g10, g11, hu⟩
  by_cases hlt : k < L.length
  · have hlt2 : k < V.length := by rw [hp.len]; exact hlt
    obtain ⟨v, hv⟩ : ∃ v, V[k]? = some v := ⟨_, List.getElem?_eq_getElem hlt2⟩
    obtain ⟨l, hl⟩ : ∃ l, L[k]? = some l := ⟨_, List.getElem?_eq_getElem hlt⟩
    have hb := (hp.keep0 hu).at_ k v l hv hl
    obtain ⟨p, cap, rfl, hcap⟩ := hb.len
    obtain ⟨q, hidx, hld, hK⟩ := (hp.keep0 hu).row.at1 (P := Tryz.prog) (t := 131) (e := 31) Tryz.underlying131 Tryz.sizeOf31 Tryz.isAgg31 k hlt2 (.slice p l.length cap) hv
    have hs1 := sumL_take hl
    have hs2 := sumL_le L (k + 1)
    have hwr : IntKind.i64.wrap ((k : Int) + 1) = ((k + 1 : Nat) : Int) := wrap64_id (by omega) (by omega)
    have hws : IntKind.i64.wrap ((sumL (L.take k) : Int) + l.length) = ((sumL (L.take (k + 1)) : Nat) : Int) := by rw [wrap64_id (by omega) (by omega)]; omega
    have hng : ¬ ((sumL (L.take (k + 1)) : Nat) : Int) < 0 := by omega
    simp [go_sem, g0, g3, g9, g10, g11, hlt, hidx, hK, hws, hng, hwr]
    exact ⟨L.length - (k + 1), by omega, k + 1, rfl, by omega, by simp [go_sem, g0], by simp [go_sem], by simp [go_sem, g9], by simp [go_sem, g10], by simp [go_sem], hu⟩
  · obtain rfl : k = L.length := by omega
    rw [List.take_length] at g3
    simp [go_sem, g0, g3, g9, g10, g11]
    refine CallP.mono (growB_any h0 h1) ?_
    rintro v W1 ⟨u1, own⟩
    simp [go_sem, g0]
    have hsz := hu.size
    refine den_loop (CcJ w bs V L) L.length ?_ ?_
    · exact ⟨0, v, rfl, Nat.zero_le _, by simp [go_sem], by simp [go_sem, g0], by simp [go_sem, hp.len], by simp [go_sem], hu.trans u1, own_base own hsz⟩
    clear g0 g3 g9 g10 g11 hlt hk u1 own hsz hu
    rintro m ρ W ⟨k, v, rfl, hk, g6, g25, g26, g27, hu, own⟩
    by_cases hlt : k < L.length
    · have hlt2 : k < V.length := by rw [hp.len]; exact hlt
      obtain ⟨x, hv⟩ : ∃ v, V[k]? = some v := ⟨_, List.getElem?_eq_getElem hlt2⟩
      obtain ⟨l, hl⟩ : ∃ l, L[k]? = some l := ⟨_, List.getElem?_eq_getElem hlt⟩
      have hb := (hp.keep0 hu).at_ k x l hv hl
      obtain ⟨q, hidx, hld, hK⟩ := (hp.keep0 hu).row.at1 (P := Tryz.prog) (t := 131) (e := 31) Tryz.underlying131 Tryz.sizeOf31 Tryz.isAgg31 k hlt2 x hv
      have hs1 := sumL_take hl
      have hs2 := sumL_le L (k + 1)
      have hfl := flat_len (L.take k)
      have hwr : IntKind.i64.wrap ((k : Int) + 1) = ((k + 1 : Nat) : Int) := wrap64_id (by omega) (by omega)
      obtain ⟨p, n, c, W2, hrun, own2, u2⟩ := own.appendN hb 31 (by omega) hu.size
      simp [go_sem, g6, g25, g26, g27, hlt, hidx, hK, K_append_ok _ _ _ _ hrun, hwr]
      refine ⟨L.length - (k + 1), by omega, k + 1, .slice p n c, rfl, by omega, by simp [go_sem], by simp [go_sem, g25], by simp [go_sem, g26], by simp [go_sem], hu.trans' u2 (fun i hi hlt => by omega), ?_⟩
      rw [flat_take hl]
      exact own2
    · obtain rfl : k = L.length := by omega
      rw [List.take_length] at own
      simp [go_sem, g6, g25, g26, g27]
      exact ⟨hu, own⟩
end Go.Proofs.YtinfdomlpbikaaaGreatDoor
namespace Go.Proofs.YtinfdomlpbikaaaGreatDoor
open Go.Eng Go.Lib
set_option linter.unusedSimpArgs false
set_option linter.unusedVariables false
set_option maxRecDepth 100000
variable {w w0 : World}
theorem AskAt.lens {a : AskV} {A : AskS} (h : AskAt w a A) : a.lens := by
  obtain ⟨n1, n2, n3⟩ := h.nums
  exact ⟨by rw [n1]; exact h.dl, by rw [n2]; exact h.tl, by rw [n3]; exact h.ll⟩
theorem SayAt.lens {a : SayV} {A : SayS} (h : SayAt w a A) : a.lens := by
  have n1 : a.data.n = A.dat.length := by obtain ⟨p, c, h1, _⟩ := h.dat.len; injection h1
  have n2 : a.entries.n = A.ent.length := by obtain ⟨p, c, h1⟩ := h.ent.len; injection h1
  exact ⟨by rw [n1]; exact h.tl, by rw [n2]; exact h.el⟩
set_option maxHeartbeats 4000000 in
theorem talkSame_any {a b : AskV} {A B : AskS} (ha : AskAt w a A) (hb : AskAt w b B) (oka : a.ok) (okb : b.ok) (hz : a.bareP) : CallP Tryz.prog 148 #[.agg a.cells, .agg b.cells] w (CmpX w A B) := by
  refine call_den (args := [_, _]) Tryz.func148 rfl rfl (by simp [Tryz.ntmps148]) ?_
  simp [go_sem]
  have la := ha.lens
  have lb := hb.lens
  have u0 : Upd noB w ((w.alloc (.cells a.cells 34)).alloc (.cells b.cells 34)) := ((Upd.refl _ _).alloc _).alloc _
  have h0 : ((w.alloc (.cells a.cells 34)).alloc (.cells b.cells 34)).heap[w.heap.size]? = some (.cells a.cells 34 (0, 0)) := by rw [heap_alloc, if_neg (by simp), heap_alloc, if_pos rfl]
  have h1 : ((w.alloc (.cells a.cells 34)).alloc (.cells b.cells 34)).heap[w.heap.size + 1]? = some (.cells b.cells 34 (0, 0)) := by rw [heap_alloc, if_pos (by simp)]
  refine CallP.mono (sliceEq_any (ha.keep u0).dia (hb.keep u0).dia (by have := ha.dl; omega)) ?_
  rintro v W ⟨acc0, rfl, hx0, u1⟩
  have hu := u0.trans u1
  have hba := u1.get h0 (fun h => h)
  have hbb := u1.get h1 (fun h => h)
  clear u0 u1 h0 h1
  generalize w.heap.size + 1 = bb at *
  generalize w.heap.size = ba at *
  rw [contS_app]
  refine opsS_cut 1 (CQ w ba bb a b 10 acc0) ?_ ?_
  · simp [go_sem, CQ, hba, hbb, hu]
  clear hba hbb hu
  rintro ρ W ⟨g2, g3, gp, hu, hba, hbb⟩
  simp only [List.drop_succ_cons, List.drop_zero]
  refine opsS_cut 6 (CQ w ba bb a b 16 (acc0 && (a.guid.1 == b.guid.1))) ?_ ?_
  · cases acc0 <;> simp [go_sem, CQ, g2, g3, gp, hba, hbb, hu]
  clear g2 g3 gp hba hbb hu
  rintro ρ W ⟨g2, g3, gp, hu, hba, hbb⟩
  obtain ⟨acc1, hK1⟩ : ∃ x, x = (acc0 && (a.guid.1 == b.guid.1)) := ⟨_, rfl⟩
  rw [← hK1] at gp
  simp only [List.drop_succ_cons, List.drop_zero]
  refine opsS_cut 7 (CQ w ba bb a b 23 (acc1 && (a.proof.1 == b.proof.1))) ?_ ?_
  · cases acc1 <;> simp [go_sem, CQ, g2, g3, gp, hba, hbb, hu]
  clear g2 g3 gp hba hbb hu
  rintro ρ W ⟨g2, g3, gp, hu, hba, hbb⟩
  obtain ⟨acc2, hK2⟩ : ∃ x, x = (acc1 && (a.proof.1 == b.proof.1)) := ⟨_, rfl⟩
  rw [← hK2] at gp
  simp only [List.drop_succ_cons, List.drop_zero]
  refine opsS_cut 7 (CQ w ba bb a b 30 (acc2 && (a.user.toList == b.user.toList))) ?_ ?_
  · cases acc2 <;> simp [go_sem, CQ, g2, g3, gp, hba, hbb, hu]
  clear g2 g3 gp hba hbb hu
  rintro ρ W ⟨g2, g3, gp, hu, hba, hbb⟩
  obtain ⟨acc3, hK3⟩ : ∃ x, x = (acc2 && (a.user.toList == b.user.toList)) := ⟨_, rfl⟩
  rw [← hK3] at gp
  simp only [List.drop_succ_cons, List.drop_zero]
  refine opsS_cut 7 (CQ w ba bb a b 37 (acc3 && (a.share.toList == b.share.toList))) ?_ ?_
  · cases acc3 <;> simp [go_sem, CQ, g2, g3, gp, hba, hbb, hu]
  clear g2 g3 gp hba hbb hu
  rintro ρ W ⟨g2, g3, gp, hu, hba, hbb⟩
  obtain ⟨acc4, hK4⟩ : ∃ x, x = (acc3 && (a.share.toList == b.share.toList)) := ⟨_, rfl⟩
  rw [← hK4] at gp
  simp only [List.drop_succ_cons, List.drop_zero]
  refine opsS_cut 4 (CQE w ba bb a b 41 acc4 (a.bareP)) ?_ ?_
  · cases acc4
    · simp [go_sem, g2, g3, gp, hba, hbb]
      exact ⟨false, by simp, by simp [go_sem, CQ, g2, g3, gp, hba, hbb, hu]⟩
    · simp [go_sem, g2, g3, gp, hba, hbb]
      refine CallP.mono (bare_any oka la) ?_
      rintro v W ⟨x, rfl, hx, ux⟩
      simp [go_sem]
      refine ⟨x, fun _ => hx, ?_⟩
      simp [go_sem, CQ, g2, g3, ux.get hba (fun h => h), ux.get hbb (fun h => h), hu.trans ux]
  clear g2 g3 gp hba hbb hu
  rintro ρ W ⟨x5, hx5, g2, g3, gp, hu, hba, hbb⟩
  obtain ⟨acc5, hK5⟩ : ∃ x, x = (acc4 && x5) := ⟨_, rfl⟩
  rw [← hK5] at gp
  simp only [List.drop_succ_cons, List.drop_zero]
  refine opsS_cut 4 (CQE w ba bb a b 45 acc5 (b.bareP)) ?_ ?_
  · cases acc5
    · simp [go_sem, g2, g3, gp, hba, hbb]
      exact ⟨false, by simp, by simp [go_sem, CQ, g2, g3, gp, hba, hbb, hu]⟩
    · simp [go_sem, g2, g3, gp, hba, hbb]
      refine CallP.mono (bare_any okb lb) ?_
      rintro v W ⟨x, rfl, hx, ux⟩
      simp [go_sem]
      refine ⟨x, fun _ => hx, ?_⟩
      simp [go_sem, CQ, g2, g3, ux.get hba (fun h => h), ux.get hbb (fun h => h), hu.trans ux]
  clear g2 g3 gp hba hbb hu
  rintro ρ W ⟨x6, hx6, g2, g3, gp, hu, hba, hbb⟩
  obtain ⟨acc6, hK6⟩ : ∃ x, x = (acc5 && x6) := ⟨_, rfl⟩
  rw [← hK6] at gp
  simp only [List.drop_succ_cons, List.drop_zero]
  simp [go_sem, gp]
  refine ⟨acc6, rfl, ?_, hu⟩
  obtain ⟨za, zad, zal⟩ := hz
  obtain ⟨na1, na2, na3⟩ := ha.nums
  obtain ⟨nb1, nb2, nb3⟩ := hb.nums
  constructor
  · intro h
    rw [hK6, Bool.and_eq_true] at h
    obtain ⟨h, e6⟩ := h
    obtain ⟨zb, zbd, zbl⟩ := (hx6 h).1 e6
    rw [hK5, Bool.and_eq_true] at h
    obtain ⟨h, e5⟩ := h
    rw [hK4, Bool.and_eq_true] at h
    obtain ⟨h, e4⟩ := h
    rw [beq_iff_eq, str_inj] at e4
    rw [hK3, Bool.and_eq_true] at h
    obtain ⟨h, e3⟩ := h
    rw [beq_iff_eq, str_inj] at e3
    rw [hK2, Bool.and_eq_true] at h
    obtain ⟨h, e2⟩ := h
    rw [beq_iff_eq] at e2
    replace e2 := Subtype.ext e2
    rw [hK1, Bool.and_eq_true] at h
    obtain ⟨h, e1⟩ := h
    rw [beq_iff_eq] at e1
    replace e1 := Subtype.ext e1
    have e0 := hx0.1 h
    have hf : a.bare = b.bare := by rw [za, zb, e1, e2, e3, e4]
    have hff := ha.f.trans (hf.trans hb.f.symm)
    have d1 : A.dat = [] := List.length_eq_zero_iff.1 (by omega)
    have d2 : B.dat = [] := List.length_eq_zero_iff.1 (by omega)
    have d3 : A.lok = [] := List.length_eq_zero_iff.1 (by omega)
    have d4 : B.lok = [] := List.length_eq_zero_iff.1 (by omega)
    cases A; cases B
    simp only at *
    rw [hff, e0, d1, d2, d3, d4]
  · intro e
    subst e
    have hf := ha.f.symm.trans hb.f
    have f1 : a.guid = b.guid := show a.bare.guid = b.bare.guid from by rw [hf]
    have f2 : a.proof = b.proof := show a.bare.proof = b.bare.proof from by rw [hf]
    have f3 : a.user = b.user := show a.bare.user = b.bare.user from by rw [hf]
    have f4 : a.share = b.share := show a.bare.share = b.bare.share from by rw [hf]
    have h0 : acc0 = true := hx0.2 rfl
    have h1 : acc1 = true := by rw [hK1, h0, f1]; simp
    have h2 : acc2 = true := by rw [hK2, h1, f2]; simp
    have h3 : acc3 = true := by rw [hK3, h2, f3]; simp
    have h4 : acc4 = true := by rw [hK4, h3, f4]; simp
    have h5 : acc5 = true := by rw [hK5, h4, (hx5 h4).2 ⟨za, zad, zal⟩]; rfl
    have h6 : acc6 = true := by rw [hK6, h5, (hx6 h5).2 ⟨by rw [← hf, za, f1, f2, f3, f4], by omega, by omega⟩]; rfl
    exact h6
end Go.Proofs.YtinfdomlpbikaaaGreatDoor
namespace Go.Proofs.YtinfdomlpbikaaaGreatDoor
open Go.Eng Go.Lib
set_option linter.unusedSimpArgs false
set_option linter.unusedVariables false
set_option maxRecDepth 100000
variable {w w0 : World}
/-- what is asked, and what is wanted of it, in two blocks of their own -/
structure TQ (w W : World) (ba bx : Nat) (a X : AskV) : Prop where
  u : Upd noB w W
  qa : W.heap[ba]? = some (.cells a.cells 34 (0, 0))
  qx : W.heap[bx]? = some (.cells X.cells 34 (0, 0))
  ne : ba ≠ bx ∧ w.heap.size ≤ ba ∧ w.heap.size ≤ bx
theorem TQ.set {w W W' : World} {ba bx : Nat} {a X : AskV} (h : TQ w W ba bx a X) (Y : AskV) (e : W' = W.setB bx (.cells Y.cells 34 (0, 0))) : TQ w W' ba bx a Y := by
  subst e
  exact ⟨h.u.setB _ _ (fun h' => absurd h' (by have := h.ne; omega)), by rw [heap_setB, if_neg h.ne.1]; exact h.qa, by rw [heap_setB, if_pos rfl, h.qx]; rfl, h.ne⟩
theorem TQ.keep {w W W' : World} {ba bx : Nat} {a X : AskV} (h : TQ w W ba bx a X) (u : Upd noB W W') : TQ w W' ba bx a X := ⟨h.u.trans u, u.get h.qa (fun h => h), u.get h.qx (fun h => h), h.ne⟩
theorem zeroA_ok : AskV.ok zeroA := by refine ⟨?_, ?_, ?_, ?_, ?_, ?_, ?_, ?_, ?_, ?_, ?_, ?_⟩ <;> decide
theorem zero4_put : (zeroC 4).put () = .ok [0, 0, 0, 0] := by
  show (numC 4).put 0 = _
  simp only [numC]
  rw [if_pos (by decide)]
  rfl
set_option maxHeartbeats 2000000 in
theorem talkPutAsk2 {a : AskV} {A : AskS} (ha : AskAt w a A) (ok : a.ok) : CallP Tryz.prog 92 #[.int .u16 2, .agg a.cells] w (fun r w' => Upd noB w w' ∧ PutR w' w.heap.size r (askFz.put A)) := by
  refine call_den (args := [_, _]) Tryz.func92 rfl rfl (by simp [Tryz.ntmps92]) ?_
  simp [go_sem]
  refine gen_call ?_
  intro W hW
  have g : TQ w W w.heap.size (w.heap.size + 1) a zeroA := by rw [hW]; exact ⟨(by repeat (first | exact Upd.refl _ _ | refine Upd.alloc ?_ _ | refine Upd.drew ?_ | refine Upd.drewN ?_ _ | refine Upd.setB ?_ _ _ (fun h => absurd h (by omega)))), (by simp only [heap_setB, heap_alloc, heap_drew, heap_drewN, size_setB, World.size_alloc]; (repeat (first | rw [if_pos trivial] | rw [if_pos (by omega)] | rw [if_neg (by omega)])); try rfl), (by simp only [heap_setB, heap_alloc, heap_drew, heap_drewN, size_setB, World.size_alloc]; (repeat (first | rw [if_pos trivial] | rw [if_pos (by omega)] | rw [if_neg (by omega)])); try rfl), by omega, by omega, by omega⟩
  clear hW
  generalize hbx : w.heap.size + 1 = bx at g ⊢
  generalize hba : w.heap.size = ba at g ⊢
  clear hbx
  have hne := g.ne.1
  have hX : AskAt W zeroA (askFz.mkS (askFz.unS A)) := AskAt.plain rfl ⟨rfl, rfl⟩ ⟨rfl, rfl⟩ ⟨rfl, rfl⟩
  have okX := zeroA_ok
  refine CallP.mono (talkKnown_any 2 (by decide) _) ?_
  rintro v W1 ⟨rfl, hW1⟩
  rw [hW1]; clear hW1; clear W1
  simp [go_sem, known8, g.qa, g.qx]
  refine CallP.mono (talkSame_any hX (ha.keep g.u) okX ok ⟨rfl, rfl, rfl⟩) ?_
  rintro v W2 ⟨x, rfl, hx, u2⟩
  replace g := g.keep u2
  clear u2
  cases x with
  | false =>
    have hA : ¬ askFz.mkS (askFz.unS A) = A := fun h => by have := hx.2 h; cases this
    simp [go_sem]
    rw [askFz.put_no hA]
    exact ⟨g.u, rfl⟩
  | true =>
    have hA := hx.1 rfl
    simp [go_sem, make4]
    rw [askFz.put_ok hA rfl]
    refine ⟨g.u.alloc _, ?_⟩
    show PutR _ _ _ ((zeroC 4).put ())
    rw [zero4_put]
    exact ⟨_, rfl, own_base (own4 W2) (by have := g.u.size; omega)⟩
set_option maxHeartbeats 2000000 in
theorem talkPutAsk4 {a : AskV} {A : AskS} (ha : AskAt w a A) (ok : a.ok) : CallP Tryz.prog 92 #[.int .u16 4, .agg a.cells] w (fun r w' => Upd noB w w' ∧ PutR w' w.heap.size r (askFz.put A)) := by
  refine call_den (args := [_, _]) Tryz.func92 rfl rfl (by simp [Tryz.ntmps92]) ?_
  simp [go_sem]
  refine gen_call ?_
  intro W hW
  have g : TQ w W w.heap.size (w.heap.size + 1) a zeroA := by rw [hW]; exact ⟨(by repeat (first | exact Upd.refl _ _ | refine Upd.alloc ?_ _ | refine Upd.drew ?_ | refine Upd.drewN ?_ _ | refine Upd.setB ?_ _ _ (fun h => absurd h (by omega)))), (by simp only [heap_setB, heap_alloc, heap_drew, heap_drewN, size_setB, World.size_alloc]; (repeat (first | rw [if_pos trivial] | rw [if_pos (by omega)] | rw [if_neg (by omega)])); try rfl), (by simp only [heap_setB, heap_alloc, heap_drew, heap_drewN, size_setB, World.size_alloc]; (repeat (first | rw [if_pos trivial] | rw [if_pos (by omega)] | rw [if_neg (by omega)])); try rfl), by omega, by omega, by omega⟩
  clear hW
  generalize hbx : w.heap.size + 1 = bx at g ⊢
  generalize hba : w.heap.size = ba at g ⊢
  clear hbx
  have hne := g.ne.1
  have hX : AskAt W zeroA (askFz.mkS (askFz.unS A)) := AskAt.plain rfl ⟨rfl, rfl⟩ ⟨rfl, rfl⟩ ⟨rfl, rfl⟩
  have okX := zeroA_ok
  refine CallP.mono (talkKnown_any 4 (by decide) _) ?_
  rintro v W1 ⟨rfl, hW1⟩
  rw [hW1]; clear hW1; clear W1
  simp [go_sem, known8, g.qa, g.qx]
  refine CallP.mono (talkSame_any hX (ha.keep g.u) okX ok ⟨rfl, rfl, rfl⟩) ?_
  rintro v W2 ⟨x, rfl, hx, u2⟩
  replace g := g.keep u2
  clear u2
  cases x with
  | false =>
    have hA : ¬ askFz.mkS (askFz.unS A) = A := fun h => by have := hx.2 h; cases this
    simp [go_sem]
    rw [askFz.put_no hA]
    exact ⟨g.u, rfl⟩
  | true =>
    have hA := hx.1 rfl
    simp [go_sem, make4]
    rw [askFz.put_ok hA rfl]
    refine ⟨g.u.alloc _, ?_⟩
    show PutR _ _ _ ((zeroC 4).put ())
    rw [zero4_put]
    exact ⟨_, rfl, own_base (own4 W2) (by have := g.u.size; omega)⟩
set_option maxHeartbeats 2000000 in
theorem talkPutAsk13 {a : AskV} {A : AskS} (ha : AskAt w a A) (ok : a.ok) : CallP Tryz.prog 92 #[.int .u16 13, .agg a.cells] w (fun r w' => Upd noB w w' ∧ PutR w' w.heap.size r (askFz.put A)) := by
  refine call_den (args := [_, _]) Tryz.func92 rfl rfl (by simp [Tryz.ntmps92]) ?_
  simp [go_sem]
  refine gen_call ?_
  intro W hW
  have g : TQ w W w.heap.size (w.heap.size + 1) a zeroA := by rw [hW]; exact ⟨(by repeat (first | exact Upd.refl _ _ | refine Upd.alloc ?_ _ | refine Upd.drew ?_ | refine Upd.drewN ?_ _ | refine Upd.setB ?_ _ _ (fun h => absurd h (by omega)))), (by simp only [heap_setB, heap_alloc, heap_drew, heap_drewN, size_setB, World.size_alloc]; (repeat (first | rw [if_pos trivial] | rw [if_pos (by omega)] | rw [if_neg (by omega)])); try rfl), (by simp only [heap_setB, heap_alloc, heap_drew, heap_drewN, size_setB, World.size_alloc]; (repeat (first | rw [if_pos trivial] | rw [if_pos (by omega)] | rw [if_neg (by omega)])); try rfl), by omega, by omega, by omega⟩
  clear hW
  generalize hbx : w.heap.size + 1 = bx at g ⊢
  generalize hba : w.heap.size = ba at g ⊢
  clear hbx
  have hne := g.ne.1
  have hX : AskAt W zeroA (askFz.mkS (askFz.unS A)) := AskAt.plain rfl ⟨rfl, rfl⟩ ⟨rfl, rfl⟩ ⟨rfl, rfl⟩
  have okX := zeroA_ok
  refine CallP.mono (talkKnown_any 13 (by decide) _) ?_
  rintro v W1 ⟨rfl, hW1⟩
  rw [hW1]; clear hW1; clear W1
  simp [go_sem, known8, g.qa, g.qx]
  refine CallP.mono (talkSame_any hX (ha.keep g.u) okX ok ⟨rfl, rfl, rfl⟩) ?_
  rintro v W2 ⟨x, rfl, hx, u2⟩
  replace g := g.keep u2
  clear u2
  cases x with
  | false =>
    have hA : ¬ askFz.mkS (askFz.unS A) = A := fun h => by have := hx.2 h; cases this
    simp [go_sem]
    rw [askFz.put_no hA]
    exact ⟨g.u, rfl⟩
  | true =>
    have hA := hx.1 rfl
    simp [go_sem, make4]
    rw [askFz.put_ok hA rfl]
    refine ⟨g.u.alloc _, ?_⟩
    show PutR _ _ _ ((zeroC 4).put ())
    rw [zero4_put]
    exact ⟨_, rfl, own_base (own4 W2) (by have := g.u.size; omega)⟩
set_option maxHeartbeats 2000000 in
theorem talkPutAsk3 {a : AskV} {A : AskS} (ha : AskAt w a A) (ok : a.ok) (hs : a.share.size ≤ 1099511627776) (hT : Tabs w) : CallP Tryz.prog 92 #[.int .u16 3, .agg a.cells] w (fun r w' => Upd noB w w' ∧ PutR w' w.heap.size r (askF3.put A)) := by
  refine call_den (args := [_, _]) Tryz.func92 rfl rfl (by simp [Tryz.ntmps92]) ?_
  simp [go_sem]
  refine gen_call ?_
  intro W hW
  have g : TQ w W w.heap.size (w.heap.size + 1) a (AskV.mk zeroA.dialects zeroA.guid zeroA.proof zeroA.user a.share zeroA.access zeroA.sharing zeroA.way zeroA.options zeroA.level zeroA.durable zeroA.file zeroA.name zeroA.at_ zeroA.n zeroA.data zeroA.locks zeroA.most zeroA.pattern zeroA.after zeroA.cls zeroA.size_ zeroA.on) := by rw [hW]; exact ⟨(by repeat (first | exact Upd.refl _ _ | refine Upd.alloc ?_ _ | refine Upd.drew ?_ | refine Upd.drewN ?_ _ | refine Upd.setB ?_ _ _ (fun h => absurd h (by omega)))), (by simp only [heap_setB, heap_alloc, heap_drew, heap_drewN, size_setB, World.size_alloc]; (repeat (first | rw [if_pos trivial] | rw [if_pos (by omega)] | rw [if_neg (by omega)])); try rfl), (by simp only [heap_setB, heap_alloc, heap_drew, heap_drewN, size_setB, World.size_alloc]; (repeat (first | rw [if_pos trivial] | rw [if_pos (by omega)] | rw [if_neg (by omega)])); try rfl), by omega, by omega, by omega⟩
  clear hW
  generalize hbx : w.heap.size + 1 = bx at g ⊢
  generalize hba : w.heap.size = ba at g ⊢
  clear hbx
  have hne := g.ne.1
  have hX : AskAt W (AskV.mk zeroA.dialects zeroA.guid zeroA.proof zeroA.user a.share zeroA.access zeroA.sharing zeroA.way zeroA.options zeroA.level zeroA.durable zeroA.file zeroA.name zeroA.at_ zeroA.n zeroA.data zeroA.locks zeroA.most zeroA.pattern zeroA.after zeroA.cls zeroA.size_ zeroA.on) (askF3.mkS (askF3.unS A)) := AskAt.plain (by show AskV.mk _ _ _ _ A.f.share _ _ _ _ _ _ _ _ _ _ _ _ _ _ _ _ _ _ = _; rw [ha.f]; rfl) ⟨rfl, rfl⟩ ⟨rfl, rfl⟩ ⟨rfl, rfl⟩
  have okX : AskV.ok (AskV.mk zeroA.dialects zeroA.guid zeroA.proof zeroA.user a.share zeroA.access zeroA.sharing zeroA.way zeroA.options zeroA.level zeroA.durable zeroA.file zeroA.name zeroA.at_ zeroA.n zeroA.data zeroA.locks zeroA.most zeroA.pattern zeroA.after zeroA.cls zeroA.size_ zeroA.on) := ⟨zeroA_ok.1, zeroA_ok.2, zeroA_ok.3, zeroA_ok.4, zeroA_ok.5, zeroA_ok.6, zeroA_ok.7, zeroA_ok.8, zeroA_ok.9, zeroA_ok.10, zeroA_ok.11, zeroA_ok.12⟩
  refine CallP.mono (talkKnown_any 3 (by decide) _) ?_
  rintro v W1 ⟨rfl, hW1⟩
  rw [hW1]; clear hW1; clear W1
  simp [go_sem, known8, g.qa, g.qx]
  refine CallP.mono (talkSame_any hX (ha.keep g.u) okX ok ⟨rfl, rfl, rfl⟩) ?_
  rintro v W2 ⟨x, rfl, hx, u2⟩
  replace g := g.keep u2
  clear u2
  cases x with
  | false =>
    have hA : ¬ askF3.mkS (askF3.unS A) = A := fun h => by have := hx.2 h; cases this
    simp [go_sem]
    rw [askF3.put_no hA]
    exact ⟨g.u, rfl⟩
  | true =>
    have hA := hx.1 rfl
    simp [go_sem, g.qa]
    refine CallP.mono (putText_any a.share hs (hT.keep0 g.u)) ?_
    rintro r W3 ⟨u3, hr⟩
    have hput : askF3.put A = textPut a.share.data.toList := by rw [askF3.put_ok hA rfl]; show textPut A.f.share.data.toList = _; rw [ha.f]; rfl
    rw [hput]
    cases ht : textPut a.share.data.toList with
    | error z =>
      rw [ht] at hr
      simp only [PutR] at hr
      subst hr
      simp [go_sem]
      exact ⟨g.u.trans u3, rfl⟩
    | ok b =>
      rw [ht] at hr
      simp only [PutR] at hr
      obtain ⟨v, rfl, own⟩ := hr
      simp [go_sem]
      exact ⟨g.u.trans u3, v, rfl, own_base own (by have := g.u.size; omega)⟩
end Go.Proofs.YtinfdomlpbikaaaGreatDoor
