/-
  What is asked, got by the program: what a Create asks.
  What is asked and said at a talk's begin and end, got by the program.
  What is asked and said at a talk's begin, got by the program: dialects, arrays.
  What is asked at a talk's begin, got by the program: the list of dialects.
  What is got: each command's, by the document and by the program.
  Put, of a message of nothing but a head.
  Get, of a message of nothing but a head.
  Messages of nothing but a head, compared, and got.
  The example that must be: an Echo, put and got; and what a Reply's head to it is.
  MsgAnswers answers true, and writes no memory that was there, of whatever head.
  What is got of a body, by the document.
  A region that draws its order, by a tree: where two operations may come next, both roads are walked.
-/
import Derived.Test.YtinfdomlpbikaaaGreatDoorGets5
import Derived.Test.YtinfdomlpbikaaaGreatDoorGets4
import Derived.Test.YtinfdomlpbikaaaGreatDoorGets2
import Derived.Test.YtinfdomlpbikaaaGreatDoorGets1
namespace Go.Proofs.YtinfdomlpbikaaaGreatDoor
open Go.Eng Go.Lib
set_option linter.unusedSimpArgs false
set_option linter.unusedVariables false
set_option maxRecDepth 100000
variable {w w0 : World}
theorem slPtr : SlT Tryz.prog 172 171 1 8 :=
  SlT.mk' Tryz.underlying172 (i := Tryz.t171) (z := .pointer none) (by kernel_rfl) (by kernel_rfl) (by kernel_rfl) (by kernel_rfl) rfl (by decide)
def RdCh {α : Type} (C : Codec α) : List α → Except Int (List UInt8) → Except Int (List UInt8) → Prop
  | [], s, s' => s' = s
  | a :: r, s, s' => ∃ s1, Rd C s s1 a ∧ RdCh C r s1 s'
theorem RdCh.snoc {α : Type} {C : Codec α} : ∀ {xs : List α} {a : α} {s s1 s2 : Except Int (List UInt8)}, RdCh C xs s s1 → Rd C s1 s2 a → RdCh C (xs ++ [a]) s s2
  | [], a, s, s1, s2, h, h2 => by
    have : s1 = s := h
    subst this
    exact ⟨s2, h2, rfl⟩
  | x :: xs, a, s, s1, s2, ⟨s3, h, h'⟩, h2 => ⟨s3, h, RdCh.snoc h' h2⟩
def crA (xs : List Int) : AskV := { zeroA with access := xs.getD 0 0, sharing := xs.getD 1 0, way := xs.getD 2 0, options := xs.getD 3 0 }
theorem crA_0 {xs : List Int} (h : xs.length = 0) (x : Int) : { crA xs with access := x } = crA (xs ++ [x]) := by
  have := List.eq_nil_of_length_eq_zero h
  subst this
  rfl
theorem crA_1 {xs : List Int} (h : xs.length = 1) (x : Int) : { crA xs with sharing := x } = crA (xs ++ [x]) := by
  match xs, h with
  | [a], _ => rfl
theorem crA_2 {xs : List Int} (h : xs.length = 2) (x : Int) : { crA xs with way := x } = crA (xs ++ [x]) := by
  match xs, h with
  | [a, b], _ => rfl
theorem crA_3 {xs : List Int} (h : xs.length = 3) (x : Int) : { crA xs with options := x } = crA (xs ++ [x]) := by
  match xs, h with
  | [a, b, c], _ => rfl
theorem GS.fin {W : World} {rb b ba : Nat} {T : TypeId} {p : Option Addr} {cap : Nat} {l : List UInt8} {st st' : Except Int (List UInt8)} {A : AskV} {a e a' e' e1 : Int} (g : GS w W rb b ba T p cap l st A) (X : Obj) (hc : W.heap[b]? = some (.cells (rdC (.slice p l.length cap) a e []) T (0, 0))) (hs : StOk l a' e' st') (Y : Obj) :
    RdI w ((((W.setB ba X).setB b (.cells (rdC (.slice p l.length cap) a' e1 []) T (0, 0))).setB b (.cells (rdC (.slice p l.length cap) a' e' []) T (0, 0))).setB rb Y) b T p cap l [] st' := by
  have h1 := g.ne
  have u1 : Upd (fun x => x = ba) W (W.setB ba X) := (Upd.refl _ _).setB _ _ (fun _ => rfl)
  have I1 := g.rd.keep u1 (fun h => h1.1 h.symm) (fun i h => by subst h; exact h1.2.2.2.1)
  have hc1 : (W.setB ba X).heap[b]? = some (.cells (rdC (.slice p l.length cap) a e []) T (0, 0)) := u1.get hc (fun h => h1.1 h.symm)
  have u2 : Upd (fun x => x = b) (W.setB ba X) (((W.setB ba X).setB b (.cells (rdC (.slice p l.length cap) a' e1 []) T (0, 0))).setB b (.cells (rdC (.slice p l.length cap) a' e' []) T (0, 0))) := ((Upd.refl (fun x => x = b) _).setB _ _ (fun _ => rfl)).setB _ _ (fun _ => rfl)
  have I2 := I1.set (st' := st') u2 (a := a') (e := e') (rest' := []) (by rw [heap_setB, if_pos rfl, heap_setB, if_pos rfl, hc1]; rfl) hs
  exact I2.keep (S := fun x => x = rb) ((Upd.refl _ _).setB _ _ (fun _ => rfl)) (fun h => h1.2.1 h.symm) (fun i h => by subst h; exact h1.2.2.2.2)
def ptrs (ba : Nat) : List Value := [.pointer (some ⟨ba, 51, none⟩), .pointer (some ⟨ba, 52, none⟩), .pointer (some ⟨ba, 53, none⟩), .pointer (some ⟨ba, 54, none⟩)]
def PtrAt (bs ba : Nat) (W : World) : Prop := W.heap[bs]? = some (.cells (ptrs ba).toArray 171 (0, 0))
theorem PtrAt.row {bs ba : Nat} {W : World} (h : PtrAt bs ba W) : RowAt W 1 (.slice (some ⟨bs, 0, none⟩) 4 4) 4 (ptrs ba) :=
  ⟨rfl, Or.inr ⟨bs, 0, 4, _, _, _, rfl, h, by simp [ptrs], by simp [ptrs]⟩⟩
def CrI (w W0 : World) (rb b ba bs : Nat) (T : TypeId) (p : Option Addr) (cap : Nat) (l : List UInt8) (st0 : Except Int (List UInt8)) (m : Nat) (ρ : Env) (W : World) : Prop :=
  ∃ (i : Nat) (xs : List Int) (st : Except Int (List UInt8)), m = 4 - i ∧ i ≤ 4 ∧ xs.length = i ∧ RdCh (numC 4) xs st0 st ∧ ρ 0 = .pointer (some ⟨b, 0, none⟩) ∧ ρ 2 = .pointer (some ⟨rb, 0, none⟩) ∧ ρ 3 = .pointer (some ⟨ba, 0, none⟩) ∧ ρ 13 = .slice (some ⟨bs, 0, none⟩) 4 4 ∧ ρ 14 = .int .i64 4 ∧ ρ 15 = .int .i64 i ∧
    GS w W rb b ba T p cap l st (crA xs) ∧ PtrAt bs ba W ∧ Upd (fun x => x = b) W0 W
def CreateOut (w W : World) (b : Nat) (T : TypeId) (p : Option Addr) (cap : Nat) (l : List UInt8) (st : Except Int (List UInt8)) (r : Value) (W' : World) : Prop :=
  ∃ st' v, Upd (fun x => x = b) W W' ∧ RdI w W' b T p cap l [] st' ∧ Rd askF5.C st st' v ∧ r = .agg (askF5.mkS v).f.cells
set_option maxHeartbeats 4000000 in
theorem fileCreate_any {W : World} {b : Nat} {T : TypeId} {p : Option Addr} {cap : Nat} {l : List UInt8} {st : Except Int (List UInt8)} (I : RdI w W b T p cap l [] st) :
    CallP Tryz.prog 120 #[.pointer (some ⟨b, 0, none⟩)] W (CreateOut w W b T p cap l st) := by
  obtain ⟨a, e, hc, hst⟩ := I.cell
  have hbW := (Array.getElem?_eq_some_iff.1 hc).1
  obtain ⟨W0, hW0⟩ : ∃ W0, W0 = W := ⟨_, rfl⟩
  refine call_den (args := [_]) Tryz.func120 rfl rfl (by simp [Tryz.ntmps120]) ?_
  simp [go_sem]
  rw [slPtr.buildN 4 _ rfl (by simp [Value.cells]) (by decide) (by decide)]
  simp [go_sem, Value.cells]
  refine gen_den ?_
  intro W2 hW2
  have hw0 := I.u.size
  have u2 : Upd noB W W2 := by rw [hW2]; exact (by repeat (first | exact Upd.refl _ _ | refine Upd.alloc ?_ _ | refine Upd.drew ?_ | refine Upd.drewN ?_ _ | refine Upd.setB ?_ _ _ (fun h => absurd h (by omega))))
  have hp : PtrAt (W0.heap.size + 1 + 1) (W0.heap.size + 1) W2 := by
    unfold PtrAt; rw [hW0, hW2, heap_alloc, if_pos (by simp)]; rfl
  have g : GS w W2 W0.heap.size b (W0.heap.size + 1) T p cap l st (crA []) := by
    refine ⟨I.keep u2 (fun h => h) (fun _ h => h.elim), ?_, ?_, by rw [hW0]; omega, by rw [hW0]; omega, by omega, by rw [hW0]; omega, by rw [hW0]; omega⟩
    · rw [hW2, heap_alloc, if_neg (by rw [hW0]; simp), heap_alloc, if_pos (by rw [hW0]; simp)]; rfl
    · rw [hW2, heap_alloc, if_neg (by rw [hW0]; simp; omega), heap_alloc, if_neg (by rw [hW0]; simp), heap_alloc, if_pos (by rw [hW0])]
  have hbs : W0.heap.size + 1 + 1 ≠ b ∧ W0.heap.size + 1 + 1 ≠ W0.heap.size + 1 := by rw [hW0]; omega
  rw [← hW0]
  clear hW2
  refine den_loop (CrI w W0 W0.heap.size b (W0.heap.size + 1) (W0.heap.size + 1 + 1) T p cap l st) 4 ?_ ?_
  · exact ⟨0, [], st, rfl, by omega, rfl, rfl, by simp [go_sem], by simp [go_sem], by simp [go_sem], by simp [go_sem], by simp [go_sem], by simp [go_sem], g, hp, by rw [hW0]; exact u2.mono (fun _ _ h => h.elim)⟩
  clear g hp
  generalize hbsd : W0.heap.size + 1 + 1 = bs at *
  rintro m ρ W3 ⟨i, xs, st1, rfl, hi, hxs, RC, g0, g2, g3, g13, g14, g15, g, hp, U⟩
  rcases (by omega : i = 0 ∨ i = 1 ∨ i = 2 ∨ i = 3 ∨ i = 4) with rfl | rfl | rfl | rfl | rfl
  · skip
    obtain ⟨q, hidx, hld, hK⟩ := hp.row.at1 (P := Tryz.prog) (t := 172) (e := 171) Tryz.underlying172 Tryz.sizeOf171 Tryz.isAgg171 0 (by decide) _ rfl
    have hidx0 : (Instr.indexAt 172 (.slice (some ⟨bs, 0, none⟩) 4 4) (.int .i64 0)).run Tryz.prog W3 = .ok (.pointer (some q)) W3 := hidx .i64
    simp [go_sem, g0, g2, g3, g13, g14, g15, hidx0, hK]
    refine CallP.mono (fileN4 g.rd) ?_
    rintro v W1 ⟨x, rfl, px, qx, u, st1, I, R⟩
    replace hp : PtrAt bs (W0.heap.size + 1) W1 := u.get hp hbs.1
    replace U := U.trans u
    replace g := g.read u I
    clear u I
    have cx : IntKind.u32.wrap x = x := wrap32 px qx
    simp [go_sem, g0, g2, g3, g13, g14, g15, g.ask, cx]
    refine ⟨4 - (0 + 1), by omega, 0 + 1, xs ++ [x], st1, rfl, by omega, by simp [hxs], RC.snoc R, by simp [go_sem, g0], by simp [go_sem, g2], by simp [go_sem, g3], by simp [go_sem, g13], by simp [go_sem, g14], by simp [go_sem, g15]; decide, g.set _ (by rw [crA_0 hxs]), ?_, U.setB _ _ (fun h => absurd h (by omega))⟩
    unfold PtrAt
    rw [heap_setB, if_neg hbs.2]
    exact hp
  · skip
    obtain ⟨q, hidx, hld, hK⟩ := hp.row.at1 (P := Tryz.prog) (t := 172) (e := 171) Tryz.underlying172 Tryz.sizeOf171 Tryz.isAgg171 1 (by decide) _ rfl
    have hidx0 : (Instr.indexAt 172 (.slice (some ⟨bs, 0, none⟩) 4 4) (.int .i64 1)).run Tryz.prog W3 = .ok (.pointer (some q)) W3 := hidx .i64
    simp [go_sem, g0, g2, g3, g13, g14, g15, hidx0, hK]
    refine CallP.mono (fileN4 g.rd) ?_
    rintro v W1 ⟨x, rfl, px, qx, u, st1, I, R⟩
    replace hp : PtrAt bs (W0.heap.size + 1) W1 := u.get hp hbs.1
    replace U := U.trans u
    replace g := g.read u I
    clear u I
    have cx : IntKind.u32.wrap x = x := wrap32 px qx
    simp [go_sem, g0, g2, g3, g13, g14, g15, g.ask, cx]
    refine ⟨4 - (1 + 1), by omega, 1 + 1, xs ++ [x], st1, rfl, by omega, by simp [hxs], RC.snoc R, by simp [go_sem, g0], by simp [go_sem, g2], by simp [go_sem, g3], by simp [go_sem, g13], by simp [go_sem, g14], by simp [go_sem, g15]; decide, g.set _ (by rw [crA_1 hxs]), ?_, U.setB _ _ (fun h => absurd h (by omega))⟩
    unfold PtrAt
    rw [heap_setB, if_neg hbs.2]
    exact hp
  · skip
    obtain ⟨q, hidx, hld, hK⟩ := hp.row.at1 (P := Tryz.prog) (t := 172) (e := 171) Tryz.underlying172 Tryz.sizeOf171 Tryz.isAgg171 2 (by decide) _ rfl
    have hidx0 : (Instr.indexAt 172 (.slice (some ⟨bs, 0, none⟩) 4 4) (.int .i64 2)).run Tryz.prog W3 = .ok (.pointer (some q)) W3 := hidx .i64
    simp [go_sem, g0, g2, g3, g13, g14, g15, hidx0, hK]
    refine CallP.mono (fileN4 g.rd) ?_
    rintro v W1 ⟨x, rfl, px, qx, u, st1, I, R⟩
    replace hp : PtrAt bs (W0.heap.size + 1) W1 := u.get hp hbs.1
    replace U := U.trans u
    replace g := g.read u I
    clear u I
    have cx : IntKind.u32.wrap x = x := wrap32 px qx
    simp [go_sem, g0, g2, g3, g13, g14, g15, g.ask, cx]
    refine ⟨4 - (2 + 1), by omega, 2 + 1, xs ++ [x], st1, rfl, by omega, by simp [hxs], RC.snoc R, by simp [go_sem, g0], by simp [go_sem, g2], by simp [go_sem, g3], by simp [go_sem, g13], by simp [go_sem, g14], by simp [go_sem, g15]; decide, g.set _ (by rw [crA_2 hxs]), ?_, U.setB _ _ (fun h => absurd h (by omega))⟩
    unfold PtrAt
    rw [heap_setB, if_neg hbs.2]
    exact hp
  · skip
    obtain ⟨q, hidx, hld, hK⟩ := hp.row.at1 (P := Tryz.prog) (t := 172) (e := 171) Tryz.underlying172 Tryz.sizeOf171 Tryz.isAgg171 3 (by decide) _ rfl
    have hidx0 : (Instr.indexAt 172 (.slice (some ⟨bs, 0, none⟩) 4 4) (.int .i64 3)).run Tryz.prog W3 = .ok (.pointer (some q)) W3 := hidx .i64
    simp [go_sem, g0, g2, g3, g13, g14, g15, hidx0, hK]
    refine CallP.mono (fileN4 g.rd) ?_
    rintro v W1 ⟨x, rfl, px, qx, u, st1, I, R⟩
    replace hp : PtrAt bs (W0.heap.size + 1) W1 := u.get hp hbs.1
    replace U := U.trans u
    replace g := g.read u I
    clear u I
    have cx : IntKind.u32.wrap x = x := wrap32 px qx
    simp [go_sem, g0, g2, g3, g13, g14, g15, g.ask, cx]
    refine ⟨4, xs ++ [x], st1, rfl, by omega, by simp [hxs], RC.snoc R, by simp [go_sem, g0], by simp [go_sem, g2], by simp [go_sem, g3], by simp [go_sem, g13], by simp [go_sem, g14], by simp [go_sem, g15]; decide, g.set _ (by rw [crA_3 hxs]), ?_, U.setB _ _ (fun h => absurd h (by omega))⟩
    unfold PtrAt
    rw [heap_setB, if_neg hbs.2]
    exact hp
  · obtain ⟨x1, x2, x3, x4, rfl⟩ : ∃ a b c d, xs = [a, b, c, d] := by
      match xs, hxs with
      | [a, b, c, d], _ => exact ⟨a, b, c, d, rfl⟩
    obtain ⟨s1, R1, s2, R2, s3, R3, s4, R4, hs4⟩ := RC
    have hs4' : st1 = s4 := hs4
    subst hs4'
    have hcr : crA [x1, x2, x3, x4] = { zeroA with access := x1, sharing := x2, way := x3, options := x4 } := rfl
    rw [hcr] at g
    simp [go_sem, g0, g2, g3, g13, g14, g15]
    refine CallP.mono (fileN1 g.rd) ?_
    rintro v W1 ⟨x5, rfl, p5, q5, u, st5, I, R5⟩
    replace g := g.read u I
    replace U := U.trans u
    clear u I
    have c5 : IntKind.u8.wrap x5 = x5 := wrap8 p5 q5
    simp [go_sem, g0, g2, g3, g.ask, c5]
    refine gen_call ?_
    intro W2 hW2
    replace U : Upd (fun x => x = b) W0 W2 := by rw [hW2]; exact U.setB _ _ (fun h => absurd h (by omega))
    replace g := g.set _ hW2
    clear hW2
    refine CallP.mono (fileN1 g.rd) ?_
    rintro v W1 ⟨x6, rfl, p6, q6, u, st6, I, R6⟩
    replace g := g.read u I
    replace U := U.trans u
    clear u I
    have c6 : IntKind.u8.wrap x6 = x6 := wrap8 p6 q6
    simp [go_sem, g0, g2, g3, g.ask, c6]
    refine gen_call ?_
    intro W2 hW2
    replace U : Upd (fun x => x = b) W0 W2 := by rw [hW2]; exact U.setB _ _ (fun h => absurd h (by omega))
    replace g := g.set _ hW2
    clear hW2
    refine CallP.mono (fileSmall2 (m := 0) (e := 5) (by decide) g.rd) ?_
    rintro v W1 ⟨x7, rfl, p7, q7, u, st7, I, R7⟩
    replace g := g.read u I
    replace U := U.trans u
    clear u I
    simp [go_sem, g0, g2, g3, g.ask]
    refine CallP.mono (fileN8 g.rd) ?_
    rintro v W1 ⟨x8, rfl, p8, q8, u, st8, I, R8⟩
    replace g := g.read u I
    replace U := U.trans u
    clear u I
    simp [go_sem, g0, g2, g3, g.ask]
    refine gen_load ?_
    intro W2 hW2
    replace U : Upd (fun x => x = b) W0 W2 := by rw [hW2]; exact U.setB _ _ (fun h => absurd h (by omega))
    replace g := g.set _ hW2
    clear hW2
    have RR := fun (s : ByteArray) (st9 : Except Int (List UInt8)) (R9 : Rd textC st8 st9 s) => Rd.seq (D := fun _ => seqC (numC 4) fun _ => seqC (numC 4) fun _ => seqC (numC 4) fun _ => seqC (numC 1) fun _ => seqC (numC 1) fun _ => seqC (zeroC 2) fun _ => seqC (numC 8) fun _ => textC) R1 (Rd.seq (D := fun _ => seqC (numC 4) fun _ => seqC (numC 4) fun _ => seqC (numC 1) fun _ => seqC (numC 1) fun _ => seqC (zeroC 2) fun _ => seqC (numC 8) fun _ => textC) R2 (Rd.seq (D := fun _ => seqC (numC 4) fun _ => seqC (numC 1) fun _ => seqC (numC 1) fun _ => seqC (zeroC 2) fun _ => seqC (numC 8) fun _ => textC) R3 (Rd.seq (D := fun _ => seqC (numC 1) fun _ => seqC (numC 1) fun _ => seqC (zeroC 2) fun _ => seqC (numC 8) fun _ => textC) R4 (Rd.seq (D := fun _ => seqC (numC 1) fun _ => seqC (zeroC 2) fun _ => seqC (numC 8) fun _ => textC) R5 (Rd.seq (D := fun _ => seqC (zeroC 2) fun _ => seqC (numC 8) fun _ => textC) R6 (Rd.seq (D := fun _ => seqC (numC 8) fun _ => textC) (zero_of R7) (Rd.seq (D := fun _ => textC) R8 R9)))))))
    obtain ⟨a, e, hc, hst⟩ := g.rd.cell
    cases st8 with
    | error z =>
      obtain ⟨rfl, hz⟩ := hst
      simp [go_sem, g0, g2, g3, g.ask, g.res, hc, hz]
      have u3 : Upd (fun x => x = W0.heap.size) W2 (W2.setB W0.heap.size (.cells (AskV.cells { zeroA with access := x1, sharing := x2, way := x3, options := x4, level := x5, durable := x6, file := x8 }) 34 (0, 0))) := (Upd.refl _ _).setB _ _ (fun _ => rfl)
      exact ⟨.error e, (x1, x2, x3, x4, x5, x6, (), x8, ByteArray.empty), U.setB _ _ (fun h => absurd h (by omega)), g.rd.keep u3 (fun h => g.ne.2.1 h.symm) (fun i h => by subst h; exact g.ne.2.2.2.2), RR _ _ text_err, rfl⟩
    | ok r =>
      obtain ⟨rfl, n, rfl, hn, rfl⟩ := hst
      simp [go_sem, g0, g2, g3, g.ask, g.res, hc]
      refine draw_script [.pure 0, .pure 4, .still [1, 2, 3, 5, 6, 7], .one 8, .pure 9, .still [10, 11, 12, 13, 14], .pure 15] (by kernel_rfl) (by kernel_rfl) (by kernel_rfl) ?_
      simp [go_sem, g0, hc]
      have ud : Upd noB w W2.drew := g.rd.u.drew
      refine CallP.mono (getText_any (g.rd.bytes.keep0 ud) g.rd.len n hn) ?_
      rintro v W4 ⟨u3, hres⟩
      have u4 : Upd noB W2 W4 := (Upd.refl noB W2).drew.trans u3
      have hc4 := u4.get hc (fun h => h)
      have g4 := g.keep u4
      have U4 : Upd (fun x => x = b) W0 W4 := U.trans (u4.mono (fun _ _ h => h.elim))
      have hbn := g.ne.1
      have hrbb := g.ne.2.1
      cases ht : textGet l n with
      | error z =>
        rw [ht] at hres
        simp only [TextR] at hres
        subst hres
        have hz := textGet_err ht
        simp [go_sem, g0, g2, g3, g4.ask, g4.res, hc4, heap_setB, hbn, Ne.symm hbn, hrbb, Ne.symm hrbb]
        refine ⟨.error z, (x1, x2, x3, x4, x5, x6, (), x8, ByteArray.empty), ?_, ?_, RR _ _ (text_bad hn ht), rfl⟩
        · exact (((U4.setB _ _ (fun h => absurd h (by omega))).setB _ _ (fun _ => rfl)).setB _ _ (fun _ => rfl)).setB _ _ (fun h => absurd h (by omega))
        · exact (g4.fin (st' := .error z) (.cells (AskV.cells { zeroA with access := x1, sharing := x2, way := x3, options := x4, level := x5, durable := x6, file := x8 }) 34 (0, 0)) hc4 (a' := 0) (e' := z) ⟨rfl, hz⟩ _)
      | ok x =>
        obtain ⟨t, nx⟩ := x
        rw [ht] at hres
        simp only [TextR] at hres
        subst hres
        have hnx := textGet_len ht
        simp [go_sem, g0, g2, g3, g4.ask, g4.res, hc4, heap_setB, hbn, Ne.symm hbn, hrbb, Ne.symm hrbb]
        refine ⟨.ok (l.drop nx), (x1, x2, x3, x4, x5, x6, (), x8, strOf t), ?_, ?_, RR _ _ (text_full hn ht), rfl⟩
        · exact (((U4.setB _ _ (fun h => absurd h (by omega))).setB _ _ (fun _ => rfl)).setB _ _ (fun _ => rfl)).setB _ _ (fun h => absurd h (by omega))
        · exact (g4.fin (st' := .ok (l.drop nx)) (.cells (AskV.cells { zeroA with access := x1, sharing := x2, way := x3, options := x4, level := x5, durable := x6, file := x8, name := strOf t }) 34 (0, 0)) hc4 (a' := nx) (e' := 0) ⟨rfl, nx, rfl, hnx, rfl⟩ _)
set_option maxHeartbeats 2000000 in
theorem fileGetAsk5 {s : Value} {l : List UInt8} (hb : BytesAt w s l) (hl : l.length ≤ 1099511627776) : CallP Tryz.prog 85 #[.int .u16 5, s] w (fun r w' => Upd noB w w' ∧ AskRes w' w.heap.size r (askF5.get l)) := by
  obtain ⟨p, cap, rfl, hcap⟩ := hb.len
  refine call_den (args := [_, _]) Tryz.func85 rfl rfl (by simp [Tryz.ntmps85]) ?_
  simp [go_sem]
  refine CallP.mono (fileKnown_any _ _) ?_
  rintro r W ⟨rfl, hW⟩
  have hu : Upd noB w W := by rw [hW]; exact (by repeat (first | exact Upd.refl _ _ | refine Upd.alloc ?_ _ | refine Upd.drew ?_ | refine Upd.drewN ?_ _ | refine Upd.setB ?_ _ _ (fun h => absurd h (by omega))))
  have h0 : W.heap[w.heap.size]? = some (.cells zeroA.cells 34 (0, 0)) := by rw [hW, heap_alloc, if_pos rfl]
  clear hW
  simp [go_sem, known9]
  refine gen_call ?_
  intro W2 hW2
  have g := GS.start (T := 140) hb hl hu h0 hW2
  clear hW2 h0 hu
  generalize W.heap.size = b at *
  generalize w.heap.size = rb at *
  clear W
  revert W2
  intro W g
  refine CallP.mono (fileCreate_any g.rd) ?_
  rintro v W1 ⟨st1, x, u, I, R, rfl⟩
  replace g := g.read u I
  clear u I
  simp [go_sem, g.ask]
  refine gen_call ?_
  intro W2 hW2
  replace g := g.set _ hW2
  clear hW2
  refine CallP.mono (fileEnd g.rd) ?_
  have hne := g.rd.ne
  rintro v W1 ⟨rfl, u, stE, I⟩
  replace g := g.read u I
  clear u I
  have G := (askF5).of_rd (R) hne
  by_cases hf : finE (st1) = 0
  · rw [if_pos hf] at G
    simp [go_sem, hf, g.ask, g.res]
    exact ⟨g.rd.u.setB _ _ (fun h => absurd h (by have := g.ne; omega)), by rw [G]; exact ⟨_, rfl, rfl, nilW _ _, nil_own _ _, nilL _ _⟩⟩
  · rw [if_neg hf] at G
    simp [go_sem, hf, g.ask, g.res]
    exact ⟨g.rd.u.setB _ _ (fun h => absurd h (by have := g.ne; omega)), by rw [G]; rfl⟩
end Go.Proofs.YtinfdomlpbikaaaGreatDoor
namespace Go.Proofs.YtinfdomlpbikaaaGreatDoor
open Go.Eng Go.Lib
set_option linter.unusedSimpArgs false
set_option linter.unusedVariables false
set_option maxRecDepth 100000
variable {w w0 : World}
theorem talkKnown_any (c : Int) (h0 : 0 ≤ c) (w : World) : CallP Tryz.prog 147 #[.int .u16 c] w (fun r w' => r = .bool (known8 c) ∧ w' = w) := by
  by_cases h : c ≤ 4
  · rcases (by omega : c = 0 ∨ c = 1 ∨ c = 2 ∨ c = 3 ∨ c = 4) with rfl | rfl | rfl | rfl | rfl
    all_goals
      refine call_den (args := [_]) Tryz.func147 rfl rfl (by simp [Tryz.ntmps147]) ?_
      simp [go_sem, known8]
  · by_cases h13 : c = 13
    · refine call_den (args := [_]) Tryz.func147 rfl rfl (by simp [Tryz.ntmps147]) ?_
      simp [go_sem, known8, h13]
    · have h1 : ¬ c = 0 := by omega
      have h2 : ¬ c = 1 := by omega
      have h3 : ¬ c = 2 := by omega
      have h4 : ¬ c = 3 := by omega
      have h5 : ¬ c = 4 := by omega
      refine call_den (args := [_]) Tryz.func147 rfl rfl (by simp [Tryz.ntmps147]) ?_
      simp [go_sem, known8, h13, h1, h2, h3, h4, h5, h]
section
variable (s : Value) (a e : Int)
theorem rdC_tail (c : Array Value) (i : Nat) (v : Value) : (rdC s a e c.toList).setIfInBounds (i + 3) v = rdC s a e (c.setIfInBounds i v).toList := by
  apply Array.toList_inj.1
  rw [Array.toList_setIfInBounds]
  simp [rdC]
@[go_sem] theorem rdA52 (A : AskV) (x : ByteArray) : (rdC s a e A.cells.toList).setIfInBounds 52 (.string x) = rdC s a e (AskV.cells { A with user := x }).toList := by
  rw [show (52 : Nat) = 49 + 3 from rfl, rdC_tail, asks49]
@[go_sem] theorem rdA53 (A : AskV) (x : ByteArray) : (rdC s a e A.cells.toList).setIfInBounds 53 (.string x) = rdC s a e (AskV.cells { A with share := x }).toList := by
  rw [show (53 : Nat) = 50 + 3 from rfl, rdC_tail, asks50]
@[go_sem] theorem rdA3 (A : AskV) (q : Option Addr) (n c : Nat) : (rdC s a e A.cells.toList).setIfInBounds 3 (.slice q n c) = rdC s a e (AskV.cells { A with dialects := ⟨q, n, c⟩ }).toList := by
  rw [show (3 : Nat) = 0 + 3 from rfl, rdC_tail, asks0]
@[go_sem] theorem rdS3 (A : SayV) (z : Int) : (rdC s a e A.cells.toList).setIfInBounds 3 (.int .u16 z) = rdC s a e (SayV.cells { A with dialect := z }).toList := by
  rw [show (3 : Nat) = 0 + 3 from rfl, rdC_tail, says0]
@[go_sem] theorem rdS4 (A : SayV) (z : Int) : (rdC s a e A.cells.toList).setIfInBounds 4 (.int .u64 z) = rdC s a e (SayV.cells { A with size_ := z }).toList := by
  rw [show (4 : Nat) = 1 + 3 from rfl, rdC_tail, says1]
@[go_sem] theorem rdA_q3 (A : AskV) : (rdC s a e A.cells.toList)[3]? = some (.slice A.dialects.p A.dialects.n A.dialects.cap) := (rfl)
@[go_sem high] theorem rdA_cut (A : AskV) (t : TypeId) (f : Nat × Nat) : cutIn (some (.cells (rdC s a e A.cells.toList) t f)) 3 69 = some A.row := by
  have h := cut_part (r := [s, .int .i64 a, .int .i64 e] ++ (A.row ++ [])) (a := [s, .int .i64 a, .int .i64 e]) (b := A.row) (c := []) t f rfl
  rw [AskV.row_len, List.append_nil] at h
  exact h
@[go_sem high] theorem rdS_cut (A : SayV) (t : TypeId) (f : Nat × Nat) : cutIn (some (.cells (rdC s a e A.cells.toList) t f)) 3 20 = some A.row := by
  have h := cut_part (r := [s, .int .i64 a, .int .i64 e] ++ (A.row ++ [])) (a := [s, .int .i64 a, .int .i64 e]) (b := A.row) (c := []) t f rfl
  rw [SayV.row_len, List.append_nil] at h
  exact h
@[go_sem] theorem rdA_size (A : AskV) : A.cells.toList.length = 69 := A.row_len
@[go_sem] theorem rdS_size (A : SayV) : A.cells.toList.length = 20 := A.row_len
theorem splice {x b c : List Value} {o n : Nat} (hx : x.length = o) (hb : b.length = n) (y : List Value) (hy : y.length = n) : (x ++ (b ++ c)).take o ++ y ++ (x ++ (b ++ c)).drop (o + y.length) = x ++ (y ++ c) := by
  have e : o + y.length = x.length + b.length := by omega
  rw [List.take_left' hx, e, List.drop_append, List.drop_eq_nil_of_le (by omega), List.nil_append]
  have : x.length + b.length - x.length = b.length := by omega
  rw [this, List.drop_left' rfl, List.append_assoc]
theorem rdA_guid (A : AskV) (X : Arr 16) : ((rdC s a e A.cells.toList).toList.take 4 ++ X.1.map u8V ++ (rdC s a e A.cells.toList).toList.drop (4 + X.1.length)).toArray = rdC s a e (AskV.cells { A with guid := X }).toList := by
  have h := splice (x := [s, .int .i64 a, .int .i64 e, .slice A.dialects.p A.dialects.n A.dialects.cap]) (b := A.guid.1.map u8V) (c := A.row.drop 17) (o := 4) (n := 16) rfl (by rw [List.length_map, A.guid.2]) (X.1.map u8V) (by rw [List.length_map, X.2])
  have e1 : (rdC s a e A.cells.toList).toList = [s, .int .i64 a, .int .i64 e, .slice A.dialects.p A.dialects.n A.dialects.cap] ++ (A.guid.1.map u8V ++ A.row.drop 17) := by
    have : A.row = [.slice A.dialects.p A.dialects.n A.dialects.cap] ++ (A.guid.1.map u8V ++ A.row.drop 17) := by
      have h17 : A.row = ([.slice A.dialects.p A.dialects.n A.dialects.cap] ++ A.guid.1.map u8V) ++ A.row.drop 17 := by
        conv => lhs; rw [← List.take_append_drop 17 A.row]
        congr 1
        unfold AskV.row
        rw [← List.append_assoc, List.take_left' (by simp [A.guid.2])]
      rw [List.append_assoc] at h17
      exact h17
    show s :: .int .i64 a :: .int .i64 e :: A.row = _
    rw [this]
    simp [A.guid.2]
  rw [e1]
  rw [List.length_map] at h
  rw [h]
  have e2 : (AskV.row { A with guid := X }) = [.slice A.dialects.p A.dialects.n A.dialects.cap] ++ (X.1.map u8V ++ A.row.drop 17) := by
    have : A.row.drop 17 = A.proof.1.map u8V ++ ([.string A.user, .string A.share, .int .u32 A.access, .int .u32 A.sharing, .int .u32 A.way, .int .u32 A.options, .int .u8 A.level, .int .u8 A.durable, .int .u64 A.file, .string A.name, .int .u64 A.at_, .int .u32 A.n, .slice A.data.p A.data.n A.data.cap, .slice A.locks.p A.locks.n A.locks.cap, .int .u16 A.most, .string A.pattern, .string A.after, .int .u16 A.cls, .int .u64 A.size_, .bool A.on]) := by
      unfold AskV.row
      rw [← List.append_assoc, List.drop_left' (by simp [A.guid.2])]
    rw [this]
    rfl
  show _ = (s :: .int .i64 a :: .int .i64 e :: AskV.row { A with guid := X }).toArray
  rw [e2]
  rfl
theorem rdA_proof (A : AskV) (X : Arr 32) : ((rdC s a e A.cells.toList).toList.take 20 ++ X.1.map u8V ++ (rdC s a e A.cells.toList).toList.drop (20 + X.1.length)).toArray = rdC s a e (AskV.cells { A with proof := X }).toList := by
  have h := splice (x := [s, .int .i64 a, .int .i64 e, .slice A.dialects.p A.dialects.n A.dialects.cap] ++ A.guid.1.map u8V) (b := A.proof.1.map u8V) (c := [.string A.user, .string A.share, .int .u32 A.access, .int .u32 A.sharing, .int .u32 A.way, .int .u32 A.options, .int .u8 A.level, .int .u8 A.durable, .int .u64 A.file, .string A.name, .int .u64 A.at_, .int .u32 A.n, .slice A.data.p A.data.n A.data.cap, .slice A.locks.p A.locks.n A.locks.cap, .int .u16 A.most, .string A.pattern, .string A.after, .int .u16 A.cls, .int .u64 A.size_, .bool A.on]) (o := 20) (n := 32) (by simp [A.guid.2]) (by rw [List.length_map, A.proof.2]) (X.1.map u8V) (by rw [List.length_map, X.2])
  have e1 : (rdC s a e A.cells.toList).toList = ([s, .int .i64 a, .int .i64 e, .slice A.dialects.p A.dialects.n A.dialects.cap] ++ A.guid.1.map u8V) ++ (A.proof.1.map u8V ++ [.string A.user, .string A.share, .int .u32 A.access, .int .u32 A.sharing, .int .u32 A.way, .int .u32 A.options, .int .u8 A.level, .int .u8 A.durable, .int .u64 A.file, .string A.name, .int .u64 A.at_, .int .u32 A.n, .slice A.data.p A.data.n A.data.cap, .slice A.locks.p A.locks.n A.locks.cap, .int .u16 A.most, .string A.pattern, .string A.after, .int .u16 A.cls, .int .u64 A.size_, .bool A.on]) := by
    show s :: .int .i64 a :: .int .i64 e :: A.row = _
    unfold AskV.row
    simp only [List.append_assoc, List.cons_append, List.nil_append]
  rw [e1]
  rw [List.length_map] at h
  rw [h]
  show _ = (s :: .int .i64 a :: .int .i64 e :: AskV.row { A with proof := X }).toArray
  unfold AskV.row
  simp only [List.append_assoc, List.cons_append, List.nil_append]
theorem rdS_chal (A : SayV) (X : Arr 8) : ((rdC s a e A.cells.toList).toList.take 5 ++ X.1.map u8V ++ (rdC s a e A.cells.toList).toList.drop (5 + X.1.length)).toArray = rdC s a e (SayV.cells { A with challenge := X }).toList := by
  have h := splice (x := [s, .int .i64 a, .int .i64 e, .int .u16 A.dialect, .int .u64 A.size_]) (b := A.challenge.1.map u8V) (c := [.int .u8 A.level, .int .u8 A.durable, .int .u16 A.made, .int .u64 A.file, .int .u8 A.kind, .slice A.data.p A.data.n A.data.cap, .int .u32 A.n, .slice A.entries.p A.entries.n A.entries.cap, .bool A.more, .bool A.gone]) (o := 5) (n := 8) rfl (by rw [List.length_map, A.challenge.2]) (X.1.map u8V) (by rw [List.length_map, X.2])
  have e1 : (rdC s a e A.cells.toList).toList = [s, .int .i64 a, .int .i64 e, .int .u16 A.dialect, .int .u64 A.size_] ++ (A.challenge.1.map u8V ++ [.int .u8 A.level, .int .u8 A.durable, .int .u16 A.made, .int .u64 A.file, .int .u8 A.kind, .slice A.data.p A.data.n A.data.cap, .int .u32 A.n, .slice A.entries.p A.entries.n A.entries.cap, .bool A.more, .bool A.gone]) := by
    show s :: .int .i64 a :: .int .i64 e :: A.row = _
    unfold SayV.row
    simp only [List.append_assoc, List.cons_append, List.nil_append]
  rw [e1]
  rw [List.length_map] at h
  rw [h]
  show _ = (s :: .int .i64 a :: .int .i64 e :: SayV.row { A with challenge := X }).toArray
  unfold SayV.row
  simp only [List.append_assoc, List.cons_append, List.nil_append]
end
/-- nothing is copied -/
theorem K_copy_zero {g o n dCap cap : Nat} {q : Option Addr} (W : World) (k : Value → World → Prop) (ty : TypeId) :
    K_copy Tryz.prog #[31, 31] ty #[.slice (some ⟨g, o, none⟩) n dCap, .slice q 0 cap] W k = k (goInt 0) W := by
  refine K_copy_ok _ _ _ _ ?_
  cases q <;> simp [Builtin.copy_, run_underlying Tryz.underlying31, Builtin.lenOf, Tryz.sizeOf5, Builtin.firstCells, storeCells, loadCells, loadCellsFrom]
/-! ### while it is got -/
structure TAk (w W : World) (rb b : Nat) (p : Option Addr) (cap : Nat) (l : List UInt8) (st : Except Int (List UInt8)) (A : AskV) : Prop where
  rd : RdI w W b 161 p cap l A.cells.toList st
  res : W.heap[rb]? = some (.cells zeroA.cells 34 (0, 0))
  ne : rb ≠ b ∧ w.heap.size ≤ b ∧ w.heap.size ≤ rb
structure TSy (w W : World) (rb b : Nat) (p : Option Addr) (cap : Nat) (l : List UInt8) (st : Except Int (List UInt8)) (A : SayV) : Prop where
  rd : RdI w W b 164 p cap l A.cells.toList st
  res : W.heap[rb]? = some (.cells zeroS.cells 39 (0, 0))
  ne : rb ≠ b ∧ w.heap.size ≤ b ∧ w.heap.size ≤ rb
section
variable {W W' : World} {rb b : Nat} {p : Option Addr} {cap : Nat} {l : List UInt8} {st st' : Except Int (List UInt8)}
theorem TAk.read {A : AskV} (g : TAk w W rb b p cap l st A) (u : Upd (fun x => x = b) W W') (I : RdI w W' b 161 p cap l A.cells.toList st') : TAk w W' rb b p cap l st' A :=
  ⟨I, u.get g.res g.ne.1, g.ne⟩
theorem TAk.keep {A : AskV} (g : TAk w W rb b p cap l st A) (u : Upd noB W W') : TAk w W' rb b p cap l st A :=
  ⟨g.rd.keep u (fun h => h) (fun _ h => h.elim), u.get g.res (fun h => h), g.ne⟩
theorem TAk.set {A : AskV} {a e : Int} (g : TAk w W rb b p cap l st A) (A' : AskV) (hc : W.heap[b]? = some (.cells (rdC (.slice p l.length cap) a e A.cells.toList) 161 (0, 0))) (hst : StOk l a e st) (h : W' = W.setB b (.cells (rdC (.slice p l.length cap) a e A'.cells.toList) 161 (0, 0))) : TAk w W' rb b p cap l st A' := by
  subst h
  have u : Upd (fun x => x = b) W (W.setB b (.cells (rdC (.slice p l.length cap) a e A'.cells.toList) 161 (0, 0))) := (Upd.refl _ _).setB _ _ (fun _ => rfl)
  exact ⟨g.rd.set u (by rw [heap_setB, if_pos rfl, hc]; rfl) hst, u.get g.res g.ne.1, g.ne⟩
theorem TAk.start {W2 : World} {X : Array Value} (hb : BytesAt w (.slice p l.length cap) l) (hl : l.length ≤ 1099511627776) (hu : Upd noB w W) (h0 : W.heap[w.heap.size]? = some (.cells zeroA.cells 34 (0, 0)))
    (h : W2 = W.alloc (.cells X 161)) (hX : X = rdC (.slice p l.length cap) 0 0 zeroA.cells.toList) : TAk w W2 w.heap.size W.heap.size p cap l (.ok l) zeroA := by
  have hs := (Array.getElem?_eq_some_iff.1 h0).1
  subst h
  refine ⟨⟨hu.alloc _, hu.size, hb, hl, 0, 0, ?_, rfl, 0, rfl, Nat.zero_le _, rfl⟩, ?_, by omega, by omega, by omega⟩
  · rw [heap_alloc, if_pos rfl, hX]
  · rw [heap_alloc, if_neg (by omega), h0]
theorem TAk.lt {A : AskV} (g : TAk w W rb b p cap l st A) : b < W.heap.size ∧ rb < W.heap.size ∧ w.heap.size ≤ W.heap.size := by
  obtain ⟨a, e, h, _⟩ := g.rd.cell
  exact ⟨(Array.getElem?_eq_some_iff.1 h).1, (Array.getElem?_eq_some_iff.1 g.res).1, g.rd.u.size⟩
theorem TAk.keepN {A : AskV} {n0 : Nat} (g : TAk w W rb b p cap l st A) (lt : b < n0 ∧ rb < n0 ∧ w.heap.size ≤ n0) (u : Upd (fun i => n0 ≤ i) W W') : TAk w W' rb b p cap l st A :=
  ⟨g.rd.keep u (by omega) (fun i h => by omega), u.get g.res (by omega), g.ne⟩
theorem TSy.read {A : SayV} (g : TSy w W rb b p cap l st A) (u : Upd (fun x => x = b) W W') (I : RdI w W' b 164 p cap l A.cells.toList st') : TSy w W' rb b p cap l st' A :=
  ⟨I, u.get g.res g.ne.1, g.ne⟩
theorem TSy.keep {A : SayV} (g : TSy w W rb b p cap l st A) (u : Upd noB W W') : TSy w W' rb b p cap l st A :=
  ⟨g.rd.keep u (fun h => h) (fun _ h => h.elim), u.get g.res (fun h => h), g.ne⟩
theorem TSy.set {A : SayV} {a e : Int} (g : TSy w W rb b p cap l st A) (A' : SayV) (hc : W.heap[b]? = some (.cells (rdC (.slice p l.length cap) a e A.cells.toList) 164 (0, 0))) (hst : StOk l a e st) (h : W' = W.setB b (.cells (rdC (.slice p l.length cap) a e A'.cells.toList) 164 (0, 0))) : TSy w W' rb b p cap l st A' := by
  subst h
  have u : Upd (fun x => x = b) W (W.setB b (.cells (rdC (.slice p l.length cap) a e A'.cells.toList) 164 (0, 0))) := (Upd.refl _ _).setB _ _ (fun _ => rfl)
  exact ⟨g.rd.set u (by rw [heap_setB, if_pos rfl, hc]; rfl) hst, u.get g.res g.ne.1, g.ne⟩
theorem TSy.start {W2 : World} {X : Array Value} (hb : BytesAt w (.slice p l.length cap) l) (hl : l.length ≤ 1099511627776) (hu : Upd noB w W) (h0 : W.heap[w.heap.size]? = some (.cells zeroS.cells 39 (0, 0)))
    (h : W2 = W.alloc (.cells X 164)) (hX : X = rdC (.slice p l.length cap) 0 0 zeroS.cells.toList) : TSy w W2 w.heap.size W.heap.size p cap l (.ok l) zeroS := by
  have hs := (Array.getElem?_eq_some_iff.1 h0).1
  subst h
  refine ⟨⟨hu.alloc _, hu.size, hb, hl, 0, 0, ?_, rfl, 0, rfl, Nat.zero_le _, rfl⟩, ?_, by omega, by omega, by omega⟩
  · rw [heap_alloc, if_pos rfl, hX]
  · rw [heap_alloc, if_neg (by omega), h0]
theorem TSy.lt {A : SayV} (g : TSy w W rb b p cap l st A) : b < W.heap.size ∧ rb < W.heap.size ∧ w.heap.size ≤ W.heap.size := by
  obtain ⟨a, e, h, _⟩ := g.rd.cell
  exact ⟨(Array.getElem?_eq_some_iff.1 h).1, (Array.getElem?_eq_some_iff.1 g.res).1, g.rd.u.size⟩
theorem TSy.keepN {A : SayV} {n0 : Nat} (g : TSy w W rb b p cap l st A) (lt : b < n0 ∧ rb < n0 ∧ w.heap.size ≤ n0) (u : Upd (fun i => n0 ≤ i) W W') : TSy w W' rb b p cap l st A :=
  ⟨g.rd.keep u (by omega) (fun i h => by omega), u.get g.res (by omega), g.ne⟩
end
theorem talkGetAsk2 {s : Value} {l : List UInt8} (hb : BytesAt w s l) (hl : l.length ≤ 1099511627776) : CallP Tryz.prog 93 #[.int .u16 2, s] w (fun r w' => Upd noB w w' ∧ AskRes w' w.heap.size r (askFz.get l)) := by
  obtain ⟨p, cap, rfl, hcap⟩ := hb.len
  refine call_den (args := [_, _]) Tryz.func93 rfl rfl (by simp [Tryz.ntmps93]) ?_
  simp [go_sem]
  refine CallP.mono (talkKnown_any _ (by decide) _) ?_
  rintro r W ⟨rfl, hW⟩
  have hu : Upd noB w W := by rw [hW]; exact (by repeat (first | exact Upd.refl _ _ | refine Upd.alloc ?_ _ | refine Upd.drew ?_ | refine Upd.drewN ?_ _ | refine Upd.setB ?_ _ _ (fun h => absurd h (by omega))))
  have h0 : W.heap[w.heap.size]? = some (.cells zeroA.cells 34 (0, 0)) := by rw [hW, heap_alloc, if_pos rfl]
  clear hW
  simp [go_sem, known8]
  refine gen_call ?_
  intro W2 hW2
  have g := TAk.start hb hl hu h0 hW2 rfl
  clear hW2 h0 hu
  generalize W.heap.size = b at *
  generalize w.heap.size = rb at *
  clear W
  revert W2
  intro W g
  refine CallP.mono (talkZero (k := 4) (by decide) g.rd) ?_
  rintro v W1 ⟨u, st1, I, R1⟩
  replace g := g.read u I
  clear u I
  simp [go_sem]
  refine CallP.mono (talkEnd g.rd) ?_
  have hne := g.rd.ne
  rintro v W1 ⟨rfl, u, stE, I⟩
  replace g := g.read u I
  clear u I
  have G := (askFz).of_rd (R1) hne
  obtain ⟨a, e, hc, hst⟩ := g.rd.cell
  by_cases hf : finE (st1) = 0
  · rw [if_pos hf] at G
    simp [go_sem, hf, hc, g.res]
    exact ⟨g.rd.u.setB _ _ (fun h => absurd h (by have := g.ne; omega)), by rw [G]; exact ⟨_, rfl, rfl, nilW _ _, nil_own _ _, nilL _ _⟩⟩
  · rw [if_neg hf] at G
    simp [go_sem, hf, g.res]
    exact ⟨g.rd.u.setB _ _ (fun h => absurd h (by have := g.ne; omega)), by rw [G]; rfl⟩
theorem talkGetAsk4 {s : Value} {l : List UInt8} (hb : BytesAt w s l) (hl : l.length ≤ 1099511627776) : CallP Tryz.prog 93 #[.int .u16 4, s] w (fun r w' => Upd noB w w' ∧ AskRes w' w.heap.size r (askFz.get l)) := by
  obtain ⟨p, cap, rfl, hcap⟩ := hb.len
  refine call_den (args := [_, _]) Tryz.func93 rfl rfl (by simp [Tryz.ntmps93]) ?_
  simp [go_sem]
  refine CallP.mono (talkKnown_any _ (by decide) _) ?_
  rintro r W ⟨rfl, hW⟩
  have hu : Upd noB w W := by rw [hW]; exact (by repeat (first | exact Upd.refl _ _ | refine Upd.alloc ?_ _ | refine Upd.drew ?_ | refine Upd.drewN ?_ _ | refine Upd.setB ?_ _ _ (fun h => absurd h (by omega))))
  have h0 : W.heap[w.heap.size]? = some (.cells zeroA.cells 34 (0, 0)) := by rw [hW, heap_alloc, if_pos rfl]
  clear hW
  simp [go_sem, known8]
  refine gen_call ?_
  intro W2 hW2
  have g := TAk.start hb hl hu h0 hW2 rfl
  clear hW2 h0 hu
  generalize W.heap.size = b at *
  generalize w.heap.size = rb at *
  clear W
  revert W2
  intro W g
  refine CallP.mono (talkZero (k := 4) (by decide) g.rd) ?_
  rintro v W1 ⟨u, st1, I, R1⟩
  replace g := g.read u I
  clear u I
  simp [go_sem]
  refine CallP.mono (talkEnd g.rd) ?_
  have hne := g.rd.ne
  rintro v W1 ⟨rfl, u, stE, I⟩
  replace g := g.read u I
  clear u I
  have G := (askFz).of_rd (R1) hne
  obtain ⟨a, e, hc, hst⟩ := g.rd.cell
  by_cases hf : finE (st1) = 0
  · rw [if_pos hf] at G
    simp [go_sem, hf, hc, g.res]
    exact ⟨g.rd.u.setB _ _ (fun h => absurd h (by have := g.ne; omega)), by rw [G]; exact ⟨_, rfl, rfl, nilW _ _, nil_own _ _, nilL _ _⟩⟩
  · rw [if_neg hf] at G
    simp [go_sem, hf, g.res]
    exact ⟨g.rd.u.setB _ _ (fun h => absurd h (by have := g.ne; omega)), by rw [G]; rfl⟩
theorem talkGetAsk13 {s : Value} {l : List UInt8} (hb : BytesAt w s l) (hl : l.length ≤ 1099511627776) : CallP Tryz.prog 93 #[.int .u16 13, s] w (fun r w' => Upd noB w w' ∧ AskRes w' w.heap.size r (askFz.get l)) := by
  obtain ⟨p, cap, rfl, hcap⟩ := hb.len
  refine call_den (args := [_, _]) Tryz.func93 rfl rfl (by simp [Tryz.ntmps93]) ?_
  simp [go_sem]
  refine CallP.mono (talkKnown_any _ (by decide) _) ?_
  rintro r W ⟨rfl, hW⟩
  have hu : Upd noB w W := by rw [hW]; exact (by repeat (first | exact Upd.refl _ _ | refine Upd.alloc ?_ _ | refine Upd.drew ?_ | refine Upd.drewN ?_ _ | refine Upd.setB ?_ _ _ (fun h => absurd h (by omega))))
  have h0 : W.heap[w.heap.size]? = some (.cells zeroA.cells 34 (0, 0)) := by rw [hW, heap_alloc, if_pos rfl]
  clear hW
  simp [go_sem, known8]
  refine gen_call ?_
  intro W2 hW2
  have g := TAk.start hb hl hu h0 hW2 rfl
  clear hW2 h0 hu
  generalize W.heap.size = b at *
  generalize w.heap.size = rb at *
  clear W
  revert W2
  intro W g
  refine CallP.mono (talkZero (k := 4) (by decide) g.rd) ?_
  rintro v W1 ⟨u, st1, I, R1⟩
  replace g := g.read u I
  clear u I
  simp [go_sem]
  refine CallP.mono (talkEnd g.rd) ?_
  have hne := g.rd.ne
  rintro v W1 ⟨rfl, u, stE, I⟩
  replace g := g.read u I
  clear u I
  have G := (askFz).of_rd (R1) hne
  obtain ⟨a, e, hc, hst⟩ := g.rd.cell
  by_cases hf : finE (st1) = 0
  · rw [if_pos hf] at G
    simp [go_sem, hf, hc, g.res]
    exact ⟨g.rd.u.setB _ _ (fun h => absurd h (by have := g.ne; omega)), by rw [G]; exact ⟨_, rfl, rfl, nilW _ _, nil_own _ _, nilL _ _⟩⟩
  · rw [if_neg hf] at G
    simp [go_sem, hf, g.res]
    exact ⟨g.rd.u.setB _ _ (fun h => absurd h (by have := g.ne; omega)), by rw [G]; rfl⟩
theorem talkGetSay1 {s : Value} {l : List UInt8} (hb : BytesAt w s l) (hl : l.length ≤ 1099511627776) : CallP Tryz.prog 95 #[.int .u16 1, s] w (fun r w' => Upd noB w w' ∧ SayRes w' w.heap.size r (sayFz.get l)) := by
  obtain ⟨p, cap, rfl, hcap⟩ := hb.len
  refine call_den (args := [_, _]) Tryz.func95 rfl rfl (by simp [Tryz.ntmps95]) ?_
  simp [go_sem]
  refine CallP.mono (talkKnown_any _ (by decide) _) ?_
  rintro r W ⟨rfl, hW⟩
  have hu : Upd noB w W := by rw [hW]; exact (by repeat (first | exact Upd.refl _ _ | refine Upd.alloc ?_ _ | refine Upd.drew ?_ | refine Upd.drewN ?_ _ | refine Upd.setB ?_ _ _ (fun h => absurd h (by omega))))
  have h0 : W.heap[w.heap.size]? = some (.cells zeroS.cells 39 (0, 0)) := by rw [hW, heap_alloc, if_pos rfl]
  clear hW
  simp [go_sem, known8]
  refine gen_call ?_
  intro W2 hW2
  have g := TSy.start hb hl hu h0 hW2 rfl
  clear hW2 h0 hu
  generalize W.heap.size = b at *
  generalize w.heap.size = rb at *
  clear W
  revert W2
  intro W g
  refine CallP.mono (talkZero (k := 4) (by decide) g.rd) ?_
  rintro v W1 ⟨u, st1, I, R1⟩
  replace g := g.read u I
  clear u I
  simp [go_sem]
  refine CallP.mono (talkEnd g.rd) ?_
  have hne := g.rd.ne
  rintro v W1 ⟨rfl, u, stE, I⟩
  replace g := g.read u I
  clear u I
  have G := (sayFz).of_rd (R1) hne
  obtain ⟨a, e, hc, hst⟩ := g.rd.cell
  by_cases hf : finE (st1) = 0
  · rw [if_pos hf] at G
    simp [go_sem, hf, hc, g.res]
    exact ⟨g.rd.u.setB _ _ (fun h => absurd h (by have := g.ne; omega)), by rw [G]; exact ⟨_, rfl, rfl, nil_own _ _, nilE _ _⟩⟩
  · rw [if_neg hf] at G
    simp [go_sem, hf, g.res]
    exact ⟨g.rd.u.setB _ _ (fun h => absurd h (by have := g.ne; omega)), by rw [G]; rfl⟩
theorem talkGetSay2 {s : Value} {l : List UInt8} (hb : BytesAt w s l) (hl : l.length ≤ 1099511627776) : CallP Tryz.prog 95 #[.int .u16 2, s] w (fun r w' => Upd noB w w' ∧ SayRes w' w.heap.size r (sayFz.get l)) := by
  obtain ⟨p, cap, rfl, hcap⟩ := hb.len
  refine call_den (args := [_, _]) Tryz.func95 rfl rfl (by simp [Tryz.ntmps95]) ?_
  simp [go_sem]
  refine CallP.mono (talkKnown_any _ (by decide) _) ?_
  rintro r W ⟨rfl, hW⟩
  have hu : Upd noB w W := by rw [hW]; exact (by repeat (first | exact Upd.refl _ _ | refine Upd.alloc ?_ _ | refine Upd.drew ?_ | refine Upd.drewN ?_ _ | refine Upd.setB ?_ _ _ (fun h => absurd h (by omega))))
  have h0 : W.heap[w.heap.size]? = some (.cells zeroS.cells 39 (0, 0)) := by rw [hW, heap_alloc, if_pos rfl]
  clear hW
  simp [go_sem, known8]
  refine gen_call ?_
  intro W2 hW2
  have g := TSy.start hb hl hu h0 hW2 rfl
  clear hW2 h0 hu
  generalize W.heap.size = b at *
  generalize w.heap.size = rb at *
  clear W
  revert W2
  intro W g
  refine CallP.mono (talkZero (k := 4) (by decide) g.rd) ?_
  rintro v W1 ⟨u, st1, I, R1⟩
  replace g := g.read u I
  clear u I
  simp [go_sem]
  refine CallP.mono (talkEnd g.rd) ?_
  have hne := g.rd.ne
  rintro v W1 ⟨rfl, u, stE, I⟩
  replace g := g.read u I
  clear u I
  have G := (sayFz).of_rd (R1) hne
  obtain ⟨a, e, hc, hst⟩ := g.rd.cell
  by_cases hf : finE (st1) = 0
  · rw [if_pos hf] at G
    simp [go_sem, hf, hc, g.res]
    exact ⟨g.rd.u.setB _ _ (fun h => absurd h (by have := g.ne; omega)), by rw [G]; exact ⟨_, rfl, rfl, nil_own _ _, nilE _ _⟩⟩
  · rw [if_neg hf] at G
    simp [go_sem, hf, g.res]
    exact ⟨g.rd.u.setB _ _ (fun h => absurd h (by have := g.ne; omega)), by rw [G]; rfl⟩
theorem talkGetSay3 {s : Value} {l : List UInt8} (hb : BytesAt w s l) (hl : l.length ≤ 1099511627776) : CallP Tryz.prog 95 #[.int .u16 3, s] w (fun r w' => Upd noB w w' ∧ SayRes w' w.heap.size r (sayFz.get l)) := by
  obtain ⟨p, cap, rfl, hcap⟩ := hb.len
  refine call_den (args := [_, _]) Tryz.func95 rfl rfl (by simp [Tryz.ntmps95]) ?_
  simp [go_sem]
  refine CallP.mono (talkKnown_any _ (by decide) _) ?_
  rintro r W ⟨rfl, hW⟩
  have hu : Upd noB w W := by rw [hW]; exact (by repeat (first | exact Upd.refl _ _ | refine Upd.alloc ?_ _ | refine Upd.drew ?_ | refine Upd.drewN ?_ _ | refine Upd.setB ?_ _ _ (fun h => absurd h (by omega))))
  have h0 : W.heap[w.heap.size]? = some (.cells zeroS.cells 39 (0, 0)) := by rw [hW, heap_alloc, if_pos rfl]
  clear hW
  simp [go_sem, known8]
  refine gen_call ?_
  intro W2 hW2
  have g := TSy.start hb hl hu h0 hW2 rfl
  clear hW2 h0 hu
  generalize W.heap.size = b at *
  generalize w.heap.size = rb at *
  clear W
  revert W2
  intro W g
  refine CallP.mono (talkZero (k := 4) (by decide) g.rd) ?_
  rintro v W1 ⟨u, st1, I, R1⟩
  replace g := g.read u I
  clear u I
  simp [go_sem]
  refine CallP.mono (talkEnd g.rd) ?_
  have hne := g.rd.ne
  rintro v W1 ⟨rfl, u, stE, I⟩
  replace g := g.read u I
  clear u I
  have G := (sayFz).of_rd (R1) hne
  obtain ⟨a, e, hc, hst⟩ := g.rd.cell
  by_cases hf : finE (st1) = 0
  · rw [if_pos hf] at G
    simp [go_sem, hf, hc, g.res]
    exact ⟨g.rd.u.setB _ _ (fun h => absurd h (by have := g.ne; omega)), by rw [G]; exact ⟨_, rfl, rfl, nil_own _ _, nilE _ _⟩⟩
  · rw [if_neg hf] at G
    simp [go_sem, hf, g.res]
    exact ⟨g.rd.u.setB _ _ (fun h => absurd h (by have := g.ne; omega)), by rw [G]; rfl⟩
theorem talkGetSay4 {s : Value} {l : List UInt8} (hb : BytesAt w s l) (hl : l.length ≤ 1099511627776) : CallP Tryz.prog 95 #[.int .u16 4, s] w (fun r w' => Upd noB w w' ∧ SayRes w' w.heap.size r (sayFz.get l)) := by
  obtain ⟨p, cap, rfl, hcap⟩ := hb.len
  refine call_den (args := [_, _]) Tryz.func95 rfl rfl (by simp [Tryz.ntmps95]) ?_
  simp [go_sem]
  refine CallP.mono (talkKnown_any _ (by decide) _) ?_
  rintro r W ⟨rfl, hW⟩
  have hu : Upd noB w W := by rw [hW]; exact (by repeat (first | exact Upd.refl _ _ | refine Upd.alloc ?_ _ | refine Upd.drew ?_ | refine Upd.drewN ?_ _ | refine Upd.setB ?_ _ _ (fun h => absurd h (by omega))))
  have h0 : W.heap[w.heap.size]? = some (.cells zeroS.cells 39 (0, 0)) := by rw [hW, heap_alloc, if_pos rfl]
  clear hW
  simp [go_sem, known8]
  refine gen_call ?_
  intro W2 hW2
  have g := TSy.start hb hl hu h0 hW2 rfl
  clear hW2 h0 hu
  generalize W.heap.size = b at *
  generalize w.heap.size = rb at *
  clear W
  revert W2
  intro W g
  refine CallP.mono (talkZero (k := 4) (by decide) g.rd) ?_
  rintro v W1 ⟨u, st1, I, R1⟩
  replace g := g.read u I
  clear u I
  simp [go_sem]
  refine CallP.mono (talkEnd g.rd) ?_
  have hne := g.rd.ne
  rintro v W1 ⟨rfl, u, stE, I⟩
  replace g := g.read u I
  clear u I
  have G := (sayFz).of_rd (R1) hne
  obtain ⟨a, e, hc, hst⟩ := g.rd.cell
  by_cases hf : finE (st1) = 0
  · rw [if_pos hf] at G
    simp [go_sem, hf, hc, g.res]
    exact ⟨g.rd.u.setB _ _ (fun h => absurd h (by have := g.ne; omega)), by rw [G]; exact ⟨_, rfl, rfl, nil_own _ _, nilE _ _⟩⟩
  · rw [if_neg hf] at G
    simp [go_sem, hf, g.res]
    exact ⟨g.rd.u.setB _ _ (fun h => absurd h (by have := g.ne; omega)), by rw [G]; rfl⟩
theorem talkGetSay13 {s : Value} {l : List UInt8} (hb : BytesAt w s l) (hl : l.length ≤ 1099511627776) : CallP Tryz.prog 95 #[.int .u16 13, s] w (fun r w' => Upd noB w w' ∧ SayRes w' w.heap.size r (sayFz.get l)) := by
  obtain ⟨p, cap, rfl, hcap⟩ := hb.len
  refine call_den (args := [_, _]) Tryz.func95 rfl rfl (by simp [Tryz.ntmps95]) ?_
  simp [go_sem]
  refine CallP.mono (talkKnown_any _ (by decide) _) ?_
  rintro r W ⟨rfl, hW⟩
  have hu : Upd noB w W := by rw [hW]; exact (by repeat (first | exact Upd.refl _ _ | refine Upd.alloc ?_ _ | refine Upd.drew ?_ | refine Upd.drewN ?_ _ | refine Upd.setB ?_ _ _ (fun h => absurd h (by omega))))
  have h0 : W.heap[w.heap.size]? = some (.cells zeroS.cells 39 (0, 0)) := by rw [hW, heap_alloc, if_pos rfl]
  clear hW
  simp [go_sem, known8]
  refine gen_call ?_
  intro W2 hW2
  have g := TSy.start hb hl hu h0 hW2 rfl
  clear hW2 h0 hu
  generalize W.heap.size = b at *
  generalize w.heap.size = rb at *
  clear W
  revert W2
  intro W g
  refine CallP.mono (talkZero (k := 4) (by decide) g.rd) ?_
  rintro v W1 ⟨u, st1, I, R1⟩
  replace g := g.read u I
  clear u I
  simp [go_sem]
  refine CallP.mono (talkEnd g.rd) ?_
  have hne := g.rd.ne
  rintro v W1 ⟨rfl, u, stE, I⟩
  replace g := g.read u I
  clear u I
  have G := (sayFz).of_rd (R1) hne
  obtain ⟨a, e, hc, hst⟩ := g.rd.cell
  by_cases hf : finE (st1) = 0
  · rw [if_pos hf] at G
    simp [go_sem, hf, hc, g.res]
    exact ⟨g.rd.u.setB _ _ (fun h => absurd h (by have := g.ne; omega)), by rw [G]; exact ⟨_, rfl, rfl, nil_own _ _, nilE _ _⟩⟩
  · rw [if_neg hf] at G
    simp [go_sem, hf, g.res]
    exact ⟨g.rd.u.setB _ _ (fun h => absurd h (by have := g.ne; omega)), by rw [G]; rfl⟩
theorem talkGetAsk3 {s : Value} {l : List UInt8} (hb : BytesAt w s l) (hl : l.length ≤ 1099511627776) : CallP Tryz.prog 93 #[.int .u16 3, s] w (fun r w' => Upd noB w w' ∧ AskRes w' w.heap.size r (askF3.get l)) := by
  obtain ⟨p, cap, rfl, hcap⟩ := hb.len
  refine call_den (args := [_, _]) Tryz.func93 rfl rfl (by simp [Tryz.ntmps93]) ?_
  simp [go_sem]
  refine CallP.mono (talkKnown_any _ (by decide) _) ?_
  rintro r W ⟨rfl, hW⟩
  have hu : Upd noB w W := by rw [hW]; exact (by repeat (first | exact Upd.refl _ _ | refine Upd.alloc ?_ _ | refine Upd.drew ?_ | refine Upd.drewN ?_ _ | refine Upd.setB ?_ _ _ (fun h => absurd h (by omega))))
  have h0 : W.heap[w.heap.size]? = some (.cells zeroA.cells 34 (0, 0)) := by rw [hW, heap_alloc, if_pos rfl]
  clear hW
  simp [go_sem, known8]
  refine gen_call ?_
  intro W2 hW2
  have g := TAk.start hb hl hu h0 hW2 rfl
  clear hW2 h0 hu
  generalize W.heap.size = b at *
  generalize w.heap.size = rb at *
  clear W
  revert W2
  intro W g
  refine CallP.mono (talkText g.rd) ?_
  rintro v W1 ⟨x1, rfl, u, st1, I, R1⟩
  replace g := g.read u I
  clear u I
  obtain ⟨a, e, hc, hst⟩ := g.rd.cell
  simp [go_sem, hc]
  refine gen_call ?_
  intro W2 hW2
  replace g := g.set _ hc hst hW2
  clear hW2 hc hst
  refine CallP.mono (talkEnd g.rd) ?_
  have hne := g.rd.ne
  rintro v W1 ⟨rfl, u, stE, I⟩
  replace g := g.read u I
  clear u I
  have G := (askF3).of_rd (R1) hne
  obtain ⟨a, e, hc, hst⟩ := g.rd.cell
  by_cases hf : finE (st1) = 0
  · rw [if_pos hf] at G
    simp [go_sem, hf, hc, g.res]
    exact ⟨g.rd.u.setB _ _ (fun h => absurd h (by have := g.ne; omega)), by rw [G]; exact ⟨_, rfl, rfl, nilW _ _, nil_own _ _, nilL _ _⟩⟩
  · rw [if_neg hf] at G
    simp [go_sem, hf, g.res]
    exact ⟨g.rd.u.setB _ _ (fun h => absurd h (by have := g.ne; omega)), by rw [G]; rfl⟩
end Go.Proofs.YtinfdomlpbikaaaGreatDoor
namespace Go.Proofs.YtinfdomlpbikaaaGreatDoor
open Go.Eng Go.Lib
set_option linter.unusedSimpArgs false
set_option linter.unusedVariables false
set_option maxRecDepth 100000
variable {w w0 : World}
def TrueS (W : World) : Prop := True
set_option maxHeartbeats 2000000 in
theorem talkGetAsk1 {s : Value} {l : List UInt8} (hb : BytesAt w s l) (hl : l.length ≤ 1099511627776) : CallP Tryz.prog 93 #[.int .u16 1, s] w (fun r w' => Upd noB w w' ∧ AskRes w' w.heap.size r (askF1.get l)) := by
  obtain ⟨p, cap, rfl, hcap⟩ := hb.len
  refine call_den (args := [_, _]) Tryz.func93 rfl rfl (by simp [Tryz.ntmps93]) ?_
  simp [go_sem]
  refine CallP.mono (talkKnown_any _ (by decide) _) ?_
  rintro r W ⟨rfl, hW⟩
  have hu : Upd noB w W := by rw [hW]; exact (by repeat (first | exact Upd.refl _ _ | refine Upd.alloc ?_ _ | refine Upd.drew ?_ | refine Upd.drewN ?_ _ | refine Upd.setB ?_ _ _ (fun h => absurd h (by omega))))
  have h0 : W.heap[w.heap.size]? = some (.cells zeroA.cells 34 (0, 0)) := by rw [hW, heap_alloc, if_pos rfl]
  clear hW
  simp [go_sem, known8]
  refine gen_draw ?_
  intro W2 hW2
  have g := TAk.start hb hl hu h0 hW2 rfl
  clear hW2 h0 hu
  generalize W.heap.size = b at *
  generalize w.heap.size = rb at *
  clear W
  revert W2
  intro W g
  refine draw_script [.pure 0, .pure 5, .held [1, 2, 3, 4, 6, 7] 8, .one 9] (by kernel_rfl) (by kernel_rfl) (by kernel_rfl) ?_
  simp [go_sem]
  haveI : Nonempty { W : World // TrueS W } := ⟨⟨W, trivial⟩⟩
  refine opsPh_held _ _ TrueS trivial ?_
  simp [go_sem]
  replace g := g.keep (Upd.refl noB _).drew
  refine CallP.mono (talkPart (k := 32) (by decide) g.rd) ?_
  rintro v W1 ⟨B, ownB, hL', u, st1, I, R1⟩
  replace g := g.read u I
  clear u I
  obtain ⟨pd, cd, rfl, hcd⟩ := ownB.at.len
  have hL := bytes_len R1 hL'
  obtain ⟨a, e, hc, hst⟩ := g.rd.cell
  refine ⟨trivial, ?_⟩
  simp [go_sem]
  rcases hL with rfl | hL
  · simp [go_sem, K_copy_zero]
    have RA : Rd (arrC 32) (.ok l) st1 (zArr 32) := arr_of R1 (fun h => by simp at h)
    refine CallP.mono (talkText g.rd) ?_
    rintro v W1 ⟨x2, rfl, u, st2, I, R2⟩
    replace g := g.read u I
    clear u I
    obtain ⟨a, e, hc, hst⟩ := g.rd.cell
    simp [go_sem, hc]
    refine gen_call ?_
    intro W2 hW2
    replace g := g.set _ hc hst hW2
    clear hW2 hc hst
    refine CallP.mono (talkEnd g.rd) ?_
    have hne := g.rd.ne
    rintro v W1 ⟨rfl, u, stE, I⟩
    replace g := g.read u I
    clear u I
    have G := (askF1).of_rd (Rd.seq (D := fun _ => textC) RA R2) hne
    obtain ⟨a, e, hc, hst⟩ := g.rd.cell
    by_cases hf : finE (st2) = 0
    · rw [if_pos hf] at G
      simp [go_sem, hf, hc, g.res]
      exact ⟨g.rd.u.setB _ _ (fun h => absurd h (by have := g.ne; omega)), by rw [G]; exact ⟨_, rfl, rfl, nilW _ _, nil_own _ _, nilL _ _⟩⟩
    · rw [if_neg hf] at G
      simp [go_sem, hf, g.res]
      exact ⟨g.rd.u.setB _ _ (fun h => absurd h (by have := g.ne; omega)), by rw [G]; rfl⟩
  · rw [K_copy_bytes (l := B) ownB.at (by omega) hc (by rw [rdC_size, rdA_size]; omega) hL.symm, rdA_proof _ _ _ _ ⟨B, hL⟩]
    have RA : Rd (arrC 32) (.ok l) st1 ⟨B, hL⟩ := arr_of R1 (fun h => rfl)
    simp [go_sem]
    refine gen_call ?_
    intro W2 hW2
    replace g := g.set _ hc hst hW2
    clear hW2 hc hst
    refine CallP.mono (talkText g.rd) ?_
    rintro v W1 ⟨x2, rfl, u, st2, I, R2⟩
    replace g := g.read u I
    clear u I
    obtain ⟨a, e, hc, hst⟩ := g.rd.cell
    simp [go_sem, hc]
    refine gen_call ?_
    intro W2 hW2
    replace g := g.set _ hc hst hW2
    clear hW2 hc hst
    refine CallP.mono (talkEnd g.rd) ?_
    have hne := g.rd.ne
    rintro v W1 ⟨rfl, u, stE, I⟩
    replace g := g.read u I
    clear u I
    have G := (askF1).of_rd (Rd.seq (D := fun _ => textC) RA R2) hne
    obtain ⟨a, e, hc, hst⟩ := g.rd.cell
    by_cases hf : finE (st2) = 0
    · rw [if_pos hf] at G
      simp [go_sem, hf, hc, g.res]
      exact ⟨g.rd.u.setB _ _ (fun h => absurd h (by have := g.ne; omega)), by rw [G]; exact ⟨_, rfl, rfl, nilW _ _, nil_own _ _, nilL _ _⟩⟩
    · rw [if_neg hf] at G
      simp [go_sem, hf, g.res]
      exact ⟨g.rd.u.setB _ _ (fun h => absurd h (by have := g.ne; omega)), by rw [G]; rfl⟩
set_option maxHeartbeats 2000000 in
theorem talkGetSay0 {s : Value} {l : List UInt8} (hb : BytesAt w s l) (hl : l.length ≤ 1099511627776) : CallP Tryz.prog 95 #[.int .u16 0, s] w (fun r w' => Upd noB w w' ∧ SayRes w' w.heap.size r (sayF0.get l)) := by
  obtain ⟨p, cap, rfl, hcap⟩ := hb.len
  refine call_den (args := [_, _]) Tryz.func95 rfl rfl (by simp [Tryz.ntmps95]) ?_
  simp [go_sem]
  refine CallP.mono (talkKnown_any _ (by decide) _) ?_
  rintro r W ⟨rfl, hW⟩
  have hu : Upd noB w W := by rw [hW]; exact (by repeat (first | exact Upd.refl _ _ | refine Upd.alloc ?_ _ | refine Upd.drew ?_ | refine Upd.drewN ?_ _ | refine Upd.setB ?_ _ _ (fun h => absurd h (by omega))))
  have h0 : W.heap[w.heap.size]? = some (.cells zeroS.cells 39 (0, 0)) := by rw [hW, heap_alloc, if_pos rfl]
  clear hW
  simp [go_sem, known8]
  refine gen_call ?_
  intro W2 hW2
  have g := TSy.start hb hl hu h0 hW2 rfl
  clear hW2 h0 hu
  generalize W.heap.size = b at *
  generalize w.heap.size = rb at *
  clear W
  revert W2
  intro W g
  refine CallP.mono (talkN (k := 2) (by decide) g.rd) ?_
  rintro v W1 ⟨x1, rfl, p1, q1, u, st1, I, R1⟩
  replace g := g.read u I
  clear u I
  obtain ⟨a, e, hc, hst⟩ := g.rd.cell
  have c1 : IntKind.u16.wrap x1 = x1 := wrap16 p1 q1
  simp [go_sem, hc, c1]
  refine gen_call ?_
  intro W2 hW2
  replace g := g.set _ hc hst hW2
  clear hW2 hc hst
  refine CallP.mono (talkZero (k := 2) (by decide) g.rd) ?_
  rintro v W1 ⟨u, st2, I, R2⟩
  replace g := g.read u I
  clear u I
  simp [go_sem]
  refine CallP.mono (talkN (k := 4) (by decide) g.rd) ?_
  rintro v W1 ⟨x3, rfl, p3, q3, u, st3, I, R3⟩
  replace g := g.read u I
  clear u I
  obtain ⟨a, e, hc, hst⟩ := g.rd.cell
  simp [go_sem, hc]
  refine gen_draw ?_
  intro W2 hW2
  replace g := g.set _ hc hst hW2
  clear hW2 hc hst
  refine draw_script [.pure 0, .pure 5, .held [1, 2, 3, 4, 6, 7] 8, .one 9] (by kernel_rfl) (by kernel_rfl) (by kernel_rfl) ?_
  simp [go_sem]
  haveI : Nonempty { W : World // TrueS W } := ⟨⟨W, trivial⟩⟩
  refine opsPh_held _ _ TrueS trivial ?_
  simp [go_sem]
  replace g := g.keep (Upd.refl noB _).drew
  refine CallP.mono (talkPart (k := 8) (by decide) g.rd) ?_
  rintro v W1 ⟨B, ownB, hL', u, st4, I, R4⟩
  replace g := g.read u I
  clear u I
  obtain ⟨pd, cd, rfl, hcd⟩ := ownB.at.len
  have hL := bytes_len R4 hL'
  obtain ⟨a, e, hc, hst⟩ := g.rd.cell
  refine ⟨trivial, ?_⟩
  simp [go_sem]
  rcases hL with rfl | hL
  · simp [go_sem, K_copy_zero]
    have RA : Rd (arrC 8) st3 st4 (zArr 8) := arr_of R4 (fun h => by simp at h)
    refine CallP.mono (talkEnd g.rd) ?_
    have hne := g.rd.ne
    rintro v W1 ⟨rfl, u, stE, I⟩
    replace g := g.read u I
    clear u I
    have G := (sayF0).of_rd (Rd.seq (D := fun _ => _) R1 (Rd.seq (D := fun _ => _) R2 (Rd.seq (D := fun _ => _) R3 RA))) hne
    obtain ⟨a, e, hc, hst⟩ := g.rd.cell
    by_cases hf : finE (st4) = 0
    · rw [if_pos hf] at G
      simp [go_sem, hf, hc, g.res]
      exact ⟨g.rd.u.setB _ _ (fun h => absurd h (by have := g.ne; omega)), by rw [G]; exact ⟨_, rfl, rfl, nil_own _ _, nilE _ _⟩⟩
    · rw [if_neg hf] at G
      simp [go_sem, hf, g.res]
      exact ⟨g.rd.u.setB _ _ (fun h => absurd h (by have := g.ne; omega)), by rw [G]; rfl⟩
  · rw [K_copy_bytes (l := B) ownB.at (by omega) hc (by rw [rdC_size, rdS_size]; omega) hL.symm, rdS_chal _ _ _ _ ⟨B, hL⟩]
    have RA : Rd (arrC 8) st3 st4 ⟨B, hL⟩ := arr_of R4 (fun h => rfl)
    simp [go_sem]
    refine gen_call ?_
    intro W2 hW2
    replace g := g.set _ hc hst hW2
    clear hW2 hc hst
    refine CallP.mono (talkEnd g.rd) ?_
    have hne := g.rd.ne
    rintro v W1 ⟨rfl, u, stE, I⟩
    replace g := g.read u I
    clear u I
    have G := (sayF0).of_rd (Rd.seq (D := fun _ => _) R1 (Rd.seq (D := fun _ => _) R2 (Rd.seq (D := fun _ => _) R3 RA))) hne
    obtain ⟨a, e, hc, hst⟩ := g.rd.cell
    by_cases hf : finE (st4) = 0
    · rw [if_pos hf] at G
      simp [go_sem, hf, hc, g.res]
      exact ⟨g.rd.u.setB _ _ (fun h => absurd h (by have := g.ne; omega)), by rw [G]; exact ⟨_, rfl, rfl, nil_own _ _, nilE _ _⟩⟩
    · rw [if_neg hf] at G
      simp [go_sem, hf, g.res]
      exact ⟨g.rd.u.setB _ _ (fun h => absurd h (by have := g.ne; omega)), by rw [G]; rfl⟩
end Go.Proofs.YtinfdomlpbikaaaGreatDoor
namespace Go.Proofs.YtinfdomlpbikaaaGreatDoor
open Go.Eng Go.Lib
set_option linter.unusedSimpArgs false
set_option linter.unusedVariables false
set_option maxRecDepth 100000
variable {w w0 : World}
def RdS0 (b : Nat) (p : Option Addr) (cap : Nat) (l : List UInt8) (A : AskV) (W : World) : Prop := ∃ a e : Int, W.heap[b]? = some (.cells (rdC (.slice p l.length cap) a e A.cells.toList) 161 (0, 0))
theorem RdS0.load {b : Nat} {p : Option Addr} {cap : Nat} {l : List UInt8} {A : AskV} {W : World} (h : RdS0 b p cap l A W) : (Instr.loadAt 29 (.pointer (some ⟨b, 3, none⟩))).run Tryz.prog W = .ok (.slice A.dialects.p A.dialects.n A.dialects.cap) W := by
  obtain ⟨a, e, h⟩ := h
  exact run_load1 _ _ (Tryz.isAgg29 _) (by rw [cell?_at, h, cellIn_some, rdA_q3])
def DiaT (w : World) (rb b : Nat) (p : Option Addr) (cap : Nat) (l : List UInt8) (st0 : Except Int (List UInt8)) (n n0 : Nat) (m : Nat) (ρ : Env) (W : World) : Prop :=
  ∃ (i : Nat) (L : List Int) (st : Except Int (List UInt8)) (d : SlV), m = n - i ∧ i ≤ n ∧ L.length = i ∧ RdL (numC 2) n i st0 st L ∧ ρ 7 = .int .u64 n ∧ ρ 8 = .int .u64 i ∧ ρ 4 = .pointer (some ⟨rb, 0, none⟩) ∧ ρ 6 = .pointer (some ⟨b, 0, none⟩) ∧
    TAk w W rb b p cap l st { zeroA with dialects := d } ∧ OwnW W n0 (.slice d.p d.n d.cap) L ∧ n0 ≤ W.heap.size
set_option maxHeartbeats 4000000 in
theorem talkGetAsk0 {s : Value} {l : List UInt8} (hb : BytesAt w s l) (hl : l.length ≤ 1099511627776) : CallP Tryz.prog 93 #[.int .u16 0, s] w (fun r w' => Upd noB w w' ∧ AskRes w' w.heap.size r (askF0.get l)) := by
  obtain ⟨p, cap, rfl, hcap⟩ := hb.len
  refine call_den (args := [_, _]) Tryz.func93 rfl rfl (by simp [Tryz.ntmps93]) ?_
  simp [go_sem]
  refine CallP.mono (talkKnown_any _ (by decide) _) ?_
  rintro r W ⟨rfl, hW⟩
  have hu : Upd noB w W := by rw [hW]; exact (by repeat (first | exact Upd.refl _ _ | refine Upd.alloc ?_ _ | refine Upd.drew ?_ | refine Upd.drewN ?_ _ | refine Upd.setB ?_ _ _ (fun h => absurd h (by omega))))
  have h0 : W.heap[w.heap.size]? = some (.cells zeroA.cells 34 (0, 0)) := by rw [hW, heap_alloc, if_pos rfl]
  clear hW
  simp [go_sem, known8]
  refine gen_call ?_
  intro W2 hW2
  have g := TAk.start hb hl hu h0 hW2 rfl
  clear hW2 h0 hu
  generalize W.heap.size = b at *
  generalize w.heap.size = rb at *
  clear W
  revert W2
  intro W g
  have lt := g.lt
  obtain ⟨n0, hn0⟩ : ∃ n0, n0 = W.heap.size := ⟨_, rfl⟩
  rw [← hn0] at lt
  refine CallP.mono (talkN (k := 2) (by decide) g.rd) ?_
  rintro v W1 ⟨x1, rfl, p1, q1, u, st1, I, RN⟩
  have hn1 : n0 ≤ W1.heap.size := by rw [hn0]; exact u.size
  replace g := g.read u I
  clear u I
  obtain ⟨a, e, hc, hst⟩ := g.rd.cell
  obtain ⟨n, rfl⟩ := Int.eq_ofNat_of_zero_le p1
  have hn65 : n < 65536 := by have : (n : Int) < 65536 := q1; omega
  cases st1 with
  | error z =>
    obtain ⟨rfl, hz⟩ := hst
    have R1 : Rd (mostC 2 16 3) (.ok l) (.error e) (n : Int) := chk_st (m := 16) (e := 3) RN (fun _ => rfl)
    rcases (by omega : 16 < (n : Int) ∨ ¬ 16 < (n : Int)) with h16 | h16
    · simp [go_sem, hc, hz, h16]
      have hst : True := trivial
      refine den_loop (DiaT w rb b p cap l (.error e) n n0) n ?_ ?_
      · exact ⟨0, [], _, ⟨none, 0, 0⟩, rfl, by omega, rfl, RdL.start, by simp [go_sem], by simp [go_sem], by simp [go_sem], by simp [go_sem], g, nilW _ _, hn1⟩
      clear g hc hst
      rintro m ρ W ⟨i, L, st, d, rfl, hi, hL, RL, g7, g8, g4, g6, g, own, hnl⟩
      by_cases hrun : i < n ∧ ∃ r, st = .ok r
      · obtain ⟨hin, r, hst⟩ := hrun
        have hin' : (i : Int) < n := by omega
        obtain ⟨a, e, hc, hso⟩ := g.rd.cell
        rw [hst] at hso
        obtain ⟨rfl, _⟩ := hso
        have hwr : IntKind.u64.wrap ((i : Int) + 1) = ((i + 1 : Nat) : Int) := by rw [wrap64 (by omega) (by omega)]; omega
        simp [go_sem, g7, g8, g4, g6, hin', hin, hc]
        refine Go.Eng.Ch.draw_script [.pure 0, .pure 1, .pure 6, .chain [2, 3, 4, 5, 7, 8] [9, 10, 11], .one 12, .one 13, .pure 14, .pure 15, .one 16] (by kernel_rfl) (by kernel_rfl) (by kernel_rfl) ?_
        simp [go_sem, g6]
        obtain ⟨A, hA⟩ : ∃ A : AskV, A = { zeroA with dialects := d } := ⟨_, rfl⟩
        have hAd : A.dialects = d := by rw [hA]
        rw [← hA] at g hc
        have hS0 : RdS0 b p cap l A W.drew := ⟨_, _, hc⟩
        haveI : Nonempty { W : World // RdS0 b p cap l A W } := ⟨⟨W.drew, hS0⟩⟩
        have g := g.keep (Upd.refl noB W).drew
        have own := own_keep0 own (Upd.refl noB W).drew
        refine Go.Eng.Ch.opsPh_chain _ _ _ hS0 ?_
        have ql := Q_load_fix (P := Tryz.prog) (W := fun i : { W : World // RdS0 b p cap l A W } => i.1) (fun i => i.2.load)
        simp [go_sem, ql, hAd]
        refine CallP.mono (talkN (k := 2) (by decide) g.rd) ?_
        rintro v W1 ⟨x, rfl, p2, q2, u, st2, I, R⟩
        have hx : IntKind.u16.wrap x = x := wrap16 p2 q2
        replace g := g.read u I
        replace own := own_above own u (fun i h => by subst h; exact lt.1)
        have hn2 : n0 ≤ W1.heap.size := Nat.le_trans hnl u.size
        obtain ⟨a1, e1, hc1, hst1⟩ := g.rd.cell
        have hS1 : RdS0 b p cap l A W1 := ⟨_, _, hc1⟩
        simp [go_sem, Go.Eng.Ch.contJ_app hS1, hx]
        have hb1 := slU16.build1K (w := W1) (u16V x) rfl (by decide)
        simp only [Value.cells, u16V] at hb1
        have gd := g.keep ((Upd.refl noB W1).alloc (.cells #[.int .u16 x] 22))
        obtain ⟨a3, e3, hc3, hst3⟩ := gd.rd.cell
        have hS2 : RdS0 b p cap l A (W1.alloc (.cells #[.int .u16 x] 22)) := ⟨_, _, hc3⟩
        obtain ⟨v', W2, hrun, own2, u2⟩ := sl_pushR slU16 own [u16V x] rfl (by intro u hu; simp at hu; subst hu; rfl) 29 (by omega) (by simp [maxLen]; omega) hn2
        simp only [u16V] at hrun
        simp [hb1, go_sem, Go.Eng.Ch.contJ_app hS2, K_append_ok _ _ _ _ hrun]
        have g2 := g.keepN lt u2
        obtain ⟨d2p, d2n, d2c, rfl⟩ : ∃ p n c, v' = .slice p n c := by
          obtain ⟨q, c, h⟩ := (RowAt.of_own own2).len
          exact ⟨q, _, c, h⟩
        obtain ⟨a2, e2, hc2, hst2⟩ := g2.rd.cell
        simp [go_sem, g4, g6, g7, g8, hwr, hc2]
        have hA2 : ({ A with dialects := ⟨d2p, d2n, d2c⟩ } : AskV) = { zeroA with dialects := ⟨d2p, d2n, d2c⟩ } := by rw [hA]
        refine ⟨n - (i + 1), by omega, i + 1, L ++ [x], st2, ⟨d2p, d2n, d2c⟩, rfl, by omega, by simp [hL], RL.step hin R, by simp [go_sem, g7], by simp [go_sem], by simp [go_sem, g4], by simp [go_sem, g6], g2.set _ hc2 hst2 (by rw [← hA2]), ?_, ?_⟩
        · have o := own_above own2 (Upd.setB (Upd.refl (fun x => x = b) W2) b (.cells (rdC (.slice p l.length cap) a2 e2 (AskV.cells { A with dialects := ⟨d2p, d2n, d2c⟩ }).toList) 161) (fun _ => rfl)) (fun i h => by subst h; exact lt.1)
          unfold OwnW
          rw [List.length_append, List.map_append]
          exact o
        · rw [size_setB]
          exact Nat.le_trans hn2 u2.size
      · by_cases hin : i < n
        · have hin' : (i : Int) < n := by omega
          obtain ⟨a, e, hc, hso⟩ := g.rd.cell
          cases st with
          | ok r => exact absurd ⟨hin, r, rfl⟩ hrun
          | error z =>
            obtain ⟨rfl, hz⟩ := hso
            have RD := RL.err
            simp [go_sem, g7, g8, g4, g6, hin', hin, hc, hz]
            obtain ⟨st, hste⟩ : ∃ st : Except Int (List UInt8), st = .error e := ⟨_, rfl⟩
            rw [← hste] at g RD
            refine draw_script [.pure 0, .pure 5, .held [1, 2, 3, 4, 6, 7] 8, .one 9] (by kernel_rfl) (by kernel_rfl) (by kernel_rfl) ?_
            simp [go_sem, g6]
            haveI : Nonempty { W : World // TrueS W } := ⟨⟨W, trivial⟩⟩
            refine opsPh_held _ _ TrueS trivial ?_
            simp [go_sem]
            replace g := g.keep (Upd.refl noB _).drew
            replace own := own_keep0 own (Upd.refl noB _).drew
            refine CallP.mono (talkPart (k := 16) (by decide) g.rd) ?_
            rintro v W1 ⟨B, ownB, hL', u, st2, I, R2⟩
            replace own := own_above own u (fun i h => by subst h; exact lt.1)
            replace g := g.read u I
            clear u I
            obtain ⟨pd, cd, rfl, hcd⟩ := ownB.at.len
            have hL := bytes_len R2 hL'
            obtain ⟨a, e, hc, hst⟩ := g.rd.cell
            refine ⟨trivial, ?_⟩
            simp [go_sem]
            rcases hL with rfl | hL
            · simp [go_sem, K_copy_zero, g6]
              have RA : Rd (arrC 16) st st2 (zArr 16) := arr_of R2 (fun h => by simp at h)
              refine CallP.mono (talkEnd g.rd) ?_
              have hne := g.rd.ne
              rintro v W1 ⟨rfl, u, stE, I⟩
              replace own := own_above own u (fun i h => by subst h; exact lt.1)
              replace g := g.read u I
              clear u I
              have G := (askF0).of_rd (ask0_of R1 RD RA) hne
              obtain ⟨a, e, hc, hst⟩ := g.rd.cell
              by_cases hf : finE (st2) = 0
              · rw [if_pos hf] at G
                simp [go_sem, hf, hc, g.res, g4, g6]
                refine ⟨g.rd.u.setB _ _ (fun h => absurd h (by have := g.ne; omega)), ?_⟩
                rw [G]
                exact ⟨_, rfl, rfl, own_base (own_above own (Upd.setB (Upd.refl (fun x => x = rb) _) _ _ (fun _ => rfl)) (fun i h => by subst h; exact lt.2.1)) (Nat.le_of_lt lt.2.1), nil_own _ _, nilL _ _⟩
              · rw [if_neg hf] at G
                simp [go_sem, hf, g.res, g4, g6]
                exact ⟨g.rd.u.setB _ _ (fun h => absurd h (by have := g.ne; omega)), by rw [G]; rfl⟩
            · rw [K_copy_bytes (l := B) ownB.at (by omega) hc (by rw [rdC_size, rdA_size]; omega) hL.symm, rdA_guid _ _ _ _ ⟨B, hL⟩]
              have RA : Rd (arrC 16) st st2 ⟨B, hL⟩ := arr_of R2 (fun h => rfl)
              simp [go_sem, g6]
              refine gen_call ?_
              intro W2 hW2
              replace own := own_above own (by rw [hW2]; exact Upd.setB (Upd.refl (fun x => x = b) _) _ _ (fun _ => rfl) : Upd (fun x => x = b) W1 W2) (fun i h => by subst h; exact lt.1)
              replace g := g.set _ hc hst hW2
              clear hW2 hc hst
              refine CallP.mono (talkEnd g.rd) ?_
              have hne := g.rd.ne
              rintro v W1 ⟨rfl, u, stE, I⟩
              replace own := own_above own u (fun i h => by subst h; exact lt.1)
              replace g := g.read u I
              clear u I
              have G := (askF0).of_rd (ask0_of R1 RD RA) hne
              obtain ⟨a, e, hc, hst⟩ := g.rd.cell
              by_cases hf : finE (st2) = 0
              · rw [if_pos hf] at G
                simp [go_sem, hf, hc, g.res, g4, g6]
                refine ⟨g.rd.u.setB _ _ (fun h => absurd h (by have := g.ne; omega)), ?_⟩
                rw [G]
                exact ⟨_, rfl, rfl, own_base (own_above own (Upd.setB (Upd.refl (fun x => x = rb) _) _ _ (fun _ => rfl)) (fun i h => by subst h; exact lt.2.1)) (Nat.le_of_lt lt.2.1), nil_own _ _, nilL _ _⟩
              · rw [if_neg hf] at G
                simp [go_sem, hf, g.res, g4, g6]
                exact ⟨g.rd.u.setB _ _ (fun h => absurd h (by have := g.ne; omega)), by rw [G]; rfl⟩
        · have hi' : i = n := by omega
          subst hi'
          have RD := RL.done
          simp [go_sem, g7, g8, g4, g6]
          refine draw_script [.pure 0, .pure 5, .held [1, 2, 3, 4, 6, 7] 8, .one 9] (by kernel_rfl) (by kernel_rfl) (by kernel_rfl) ?_
          simp [go_sem, g6]
          haveI : Nonempty { W : World // TrueS W } := ⟨⟨W, trivial⟩⟩
          refine opsPh_held _ _ TrueS trivial ?_
          simp [go_sem]
          replace g := g.keep (Upd.refl noB _).drew
          replace own := own_keep0 own (Upd.refl noB _).drew
          refine CallP.mono (talkPart (k := 16) (by decide) g.rd) ?_
          rintro v W1 ⟨B, ownB, hL', u, st2, I, R2⟩
          replace own := own_above own u (fun i h => by subst h; exact lt.1)
          replace g := g.read u I
          clear u I
          obtain ⟨pd, cd, rfl, hcd⟩ := ownB.at.len
          have hL := bytes_len R2 hL'
          obtain ⟨a, e, hc, hst⟩ := g.rd.cell
          refine ⟨trivial, ?_⟩
          simp [go_sem]
          rcases hL with rfl | hL
          · simp [go_sem, K_copy_zero, g6]
            have RA : Rd (arrC 16) st st2 (zArr 16) := arr_of R2 (fun h => by simp at h)
            refine CallP.mono (talkEnd g.rd) ?_
            have hne := g.rd.ne
            rintro v W1 ⟨rfl, u, stE, I⟩
            replace own := own_above own u (fun i h => by subst h; exact lt.1)
            replace g := g.read u I
            clear u I
            have G := (askF0).of_rd (ask0_of R1 RD RA) hne
            obtain ⟨a, e, hc, hst⟩ := g.rd.cell
            by_cases hf : finE (st2) = 0
            · rw [if_pos hf] at G
              simp [go_sem, hf, hc, g.res, g4, g6]
              refine ⟨g.rd.u.setB _ _ (fun h => absurd h (by have := g.ne; omega)), ?_⟩
              rw [G]
              exact ⟨_, rfl, rfl, own_base (own_above own (Upd.setB (Upd.refl (fun x => x = rb) _) _ _ (fun _ => rfl)) (fun i h => by subst h; exact lt.2.1)) (Nat.le_of_lt lt.2.1), nil_own _ _, nilL _ _⟩
            · rw [if_neg hf] at G
              simp [go_sem, hf, g.res, g4, g6]
              exact ⟨g.rd.u.setB _ _ (fun h => absurd h (by have := g.ne; omega)), by rw [G]; rfl⟩
          · rw [K_copy_bytes (l := B) ownB.at (by omega) hc (by rw [rdC_size, rdA_size]; omega) hL.symm, rdA_guid _ _ _ _ ⟨B, hL⟩]
            have RA : Rd (arrC 16) st st2 ⟨B, hL⟩ := arr_of R2 (fun h => rfl)
            simp [go_sem, g6]
            refine gen_call ?_
            intro W2 hW2
            replace own := own_above own (by rw [hW2]; exact Upd.setB (Upd.refl (fun x => x = b) _) _ _ (fun _ => rfl) : Upd (fun x => x = b) W1 W2) (fun i h => by subst h; exact lt.1)
            replace g := g.set _ hc hst hW2
            clear hW2 hc hst
            refine CallP.mono (talkEnd g.rd) ?_
            have hne := g.rd.ne
            rintro v W1 ⟨rfl, u, stE, I⟩
            replace own := own_above own u (fun i h => by subst h; exact lt.1)
            replace g := g.read u I
            clear u I
            have G := (askF0).of_rd (ask0_of R1 RD RA) hne
            obtain ⟨a, e, hc, hst⟩ := g.rd.cell
            by_cases hf : finE (st2) = 0
            · rw [if_pos hf] at G
              simp [go_sem, hf, hc, g.res, g4, g6]
              refine ⟨g.rd.u.setB _ _ (fun h => absurd h (by have := g.ne; omega)), ?_⟩
              rw [G]
              exact ⟨_, rfl, rfl, own_base (own_above own (Upd.setB (Upd.refl (fun x => x = rb) _) _ _ (fun _ => rfl)) (fun i h => by subst h; exact lt.2.1)) (Nat.le_of_lt lt.2.1), nil_own _ _, nilL _ _⟩
            · rw [if_neg hf] at G
              simp [go_sem, hf, g.res, g4, g6]
              exact ⟨g.rd.u.setB _ _ (fun h => absurd h (by have := g.ne; omega)), by rw [G]; rfl⟩
    · simp [go_sem, hc, hz, h16]
      have hst : True := trivial
      refine den_loop (DiaT w rb b p cap l (.error e) n n0) n ?_ ?_
      · exact ⟨0, [], _, ⟨none, 0, 0⟩, rfl, by omega, rfl, RdL.start, by simp [go_sem], by simp [go_sem], by simp [go_sem], by simp [go_sem], g, nilW _ _, hn1⟩
      clear g hc hst
      rintro m ρ W ⟨i, L, st, d, rfl, hi, hL, RL, g7, g8, g4, g6, g, own, hnl⟩
      by_cases hrun : i < n ∧ ∃ r, st = .ok r
      · obtain ⟨hin, r, hst⟩ := hrun
        have hin' : (i : Int) < n := by omega
        obtain ⟨a, e, hc, hso⟩ := g.rd.cell
        rw [hst] at hso
        obtain ⟨rfl, _⟩ := hso
        have hwr : IntKind.u64.wrap ((i : Int) + 1) = ((i + 1 : Nat) : Int) := by rw [wrap64 (by omega) (by omega)]; omega
        simp [go_sem, g7, g8, g4, g6, hin', hin, hc]
        refine Go.Eng.Ch.draw_script [.pure 0, .pure 1, .pure 6, .chain [2, 3, 4, 5, 7, 8] [9, 10, 11], .one 12, .one 13, .pure 14, .pure 15, .one 16] (by kernel_rfl) (by kernel_rfl) (by kernel_rfl) ?_
        simp [go_sem, g6]
        obtain ⟨A, hA⟩ : ∃ A : AskV, A = { zeroA with dialects := d } := ⟨_, rfl⟩
        have hAd : A.dialects = d := by rw [hA]
        rw [← hA] at g hc
        have hS0 : RdS0 b p cap l A W.drew := ⟨_, _, hc⟩
        haveI : Nonempty { W : World // RdS0 b p cap l A W } := ⟨⟨W.drew, hS0⟩⟩
        have g := g.keep (Upd.refl noB W).drew
        have own := own_keep0 own (Upd.refl noB W).drew
        refine Go.Eng.Ch.opsPh_chain _ _ _ hS0 ?_
        have ql := Q_load_fix (P := Tryz.prog) (W := fun i : { W : World // RdS0 b p cap l A W } => i.1) (fun i => i.2.load)
        simp [go_sem, ql, hAd]
        refine CallP.mono (talkN (k := 2) (by decide) g.rd) ?_
        rintro v W1 ⟨x, rfl, p2, q2, u, st2, I, R⟩
        have hx : IntKind.u16.wrap x = x := wrap16 p2 q2
        replace g := g.read u I
        replace own := own_above own u (fun i h => by subst h; exact lt.1)
        have hn2 : n0 ≤ W1.heap.size := Nat.le_trans hnl u.size
        obtain ⟨a1, e1, hc1, hst1⟩ := g.rd.cell
        have hS1 : RdS0 b p cap l A W1 := ⟨_, _, hc1⟩
        simp [go_sem, Go.Eng.Ch.contJ_app hS1, hx]
        have hb1 := slU16.build1K (w := W1) (u16V x) rfl (by decide)
        simp only [Value.cells, u16V] at hb1
        have gd := g.keep ((Upd.refl noB W1).alloc (.cells #[.int .u16 x] 22))
        obtain ⟨a3, e3, hc3, hst3⟩ := gd.rd.cell
        have hS2 : RdS0 b p cap l A (W1.alloc (.cells #[.int .u16 x] 22)) := ⟨_, _, hc3⟩
        obtain ⟨v', W2, hrun, own2, u2⟩ := sl_pushR slU16 own [u16V x] rfl (by intro u hu; simp at hu; subst hu; rfl) 29 (by omega) (by simp [maxLen]; omega) hn2
        simp only [u16V] at hrun
        simp [hb1, go_sem, Go.Eng.Ch.contJ_app hS2, K_append_ok _ _ _ _ hrun]
        have g2 := g.keepN lt u2
        obtain ⟨d2p, d2n, d2c, rfl⟩ : ∃ p n c, v' = .slice p n c := by
          obtain ⟨q, c, h⟩ := (RowAt.of_own own2).len
          exact ⟨q, _, c, h⟩
        obtain ⟨a2, e2, hc2, hst2⟩ := g2.rd.cell
        simp [go_sem, g4, g6, g7, g8, hwr, hc2]
        have hA2 : ({ A with dialects := ⟨d2p, d2n, d2c⟩ } : AskV) = { zeroA with dialects := ⟨d2p, d2n, d2c⟩ } := by rw [hA]
        refine ⟨n - (i + 1), by omega, i + 1, L ++ [x], st2, ⟨d2p, d2n, d2c⟩, rfl, by omega, by simp [hL], RL.step hin R, by simp [go_sem, g7], by simp [go_sem], by simp [go_sem, g4], by simp [go_sem, g6], g2.set _ hc2 hst2 (by rw [← hA2]), ?_, ?_⟩
        · have o := own_above own2 (Upd.setB (Upd.refl (fun x => x = b) W2) b (.cells (rdC (.slice p l.length cap) a2 e2 (AskV.cells { A with dialects := ⟨d2p, d2n, d2c⟩ }).toList) 161) (fun _ => rfl)) (fun i h => by subst h; exact lt.1)
          unfold OwnW
          rw [List.length_append, List.map_append]
          exact o
        · rw [size_setB]
          exact Nat.le_trans hn2 u2.size
      · by_cases hin : i < n
        · have hin' : (i : Int) < n := by omega
          obtain ⟨a, e, hc, hso⟩ := g.rd.cell
          cases st with
          | ok r => exact absurd ⟨hin, r, rfl⟩ hrun
          | error z =>
            obtain ⟨rfl, hz⟩ := hso
            have RD := RL.err
            simp [go_sem, g7, g8, g4, g6, hin', hin, hc, hz]
            obtain ⟨st, hste⟩ : ∃ st : Except Int (List UInt8), st = .error e := ⟨_, rfl⟩
            rw [← hste] at g RD
            refine draw_script [.pure 0, .pure 5, .held [1, 2, 3, 4, 6, 7] 8, .one 9] (by kernel_rfl) (by kernel_rfl) (by kernel_rfl) ?_
            simp [go_sem, g6]
            haveI : Nonempty { W : World // TrueS W } := ⟨⟨W, trivial⟩⟩
            refine opsPh_held _ _ TrueS trivial ?_
            simp [go_sem]
            replace g := g.keep (Upd.refl noB _).drew
            replace own := own_keep0 own (Upd.refl noB _).drew
            refine CallP.mono (talkPart (k := 16) (by decide) g.rd) ?_
            rintro v W1 ⟨B, ownB, hL', u, st2, I, R2⟩
            replace own := own_above own u (fun i h => by subst h; exact lt.1)
            replace g := g.read u I
            clear u I
            obtain ⟨pd, cd, rfl, hcd⟩ := ownB.at.len
            have hL := bytes_len R2 hL'
            obtain ⟨a, e, hc, hst⟩ := g.rd.cell
            refine ⟨trivial, ?_⟩
            simp [go_sem]
            rcases hL with rfl | hL
            · simp [go_sem, K_copy_zero, g6]
              have RA : Rd (arrC 16) st st2 (zArr 16) := arr_of R2 (fun h => by simp at h)
              refine CallP.mono (talkEnd g.rd) ?_
              have hne := g.rd.ne
              rintro v W1 ⟨rfl, u, stE, I⟩
              replace own := own_above own u (fun i h => by subst h; exact lt.1)
              replace g := g.read u I
              clear u I
              have G := (askF0).of_rd (ask0_of R1 RD RA) hne
              obtain ⟨a, e, hc, hst⟩ := g.rd.cell
              by_cases hf : finE (st2) = 0
              · rw [if_pos hf] at G
                simp [go_sem, hf, hc, g.res, g4, g6]
                refine ⟨g.rd.u.setB _ _ (fun h => absurd h (by have := g.ne; omega)), ?_⟩
                rw [G]
                exact ⟨_, rfl, rfl, own_base (own_above own (Upd.setB (Upd.refl (fun x => x = rb) _) _ _ (fun _ => rfl)) (fun i h => by subst h; exact lt.2.1)) (Nat.le_of_lt lt.2.1), nil_own _ _, nilL _ _⟩
              · rw [if_neg hf] at G
                simp [go_sem, hf, g.res, g4, g6]
                exact ⟨g.rd.u.setB _ _ (fun h => absurd h (by have := g.ne; omega)), by rw [G]; rfl⟩
            · rw [K_copy_bytes (l := B) ownB.at (by omega) hc (by rw [rdC_size, rdA_size]; omega) hL.symm, rdA_guid _ _ _ _ ⟨B, hL⟩]
              have RA : Rd (arrC 16) st st2 ⟨B, hL⟩ := arr_of R2 (fun h => rfl)
              simp [go_sem, g6]
              refine gen_call ?_
              intro W2 hW2
              replace own := own_above own (by rw [hW2]; exact Upd.setB (Upd.refl (fun x => x = b) _) _ _ (fun _ => rfl) : Upd (fun x => x = b) W1 W2) (fun i h => by subst h; exact lt.1)
              replace g := g.set _ hc hst hW2
              clear hW2 hc hst
              refine CallP.mono (talkEnd g.rd) ?_
              have hne := g.rd.ne
              rintro v W1 ⟨rfl, u, stE, I⟩
              replace own := own_above own u (fun i h => by subst h; exact lt.1)
              replace g := g.read u I
              clear u I
              have G := (askF0).of_rd (ask0_of R1 RD RA) hne
              obtain ⟨a, e, hc, hst⟩ := g.rd.cell
              by_cases hf : finE (st2) = 0
              · rw [if_pos hf] at G
                simp [go_sem, hf, hc, g.res, g4, g6]
                refine ⟨g.rd.u.setB _ _ (fun h => absurd h (by have := g.ne; omega)), ?_⟩
                rw [G]
                exact ⟨_, rfl, rfl, own_base (own_above own (Upd.setB (Upd.refl (fun x => x = rb) _) _ _ (fun _ => rfl)) (fun i h => by subst h; exact lt.2.1)) (Nat.le_of_lt lt.2.1), nil_own _ _, nilL _ _⟩
              · rw [if_neg hf] at G
                simp [go_sem, hf, g.res, g4, g6]
                exact ⟨g.rd.u.setB _ _ (fun h => absurd h (by have := g.ne; omega)), by rw [G]; rfl⟩
        · have hi' : i = n := by omega
          subst hi'
          have RD := RL.done
          simp [go_sem, g7, g8, g4, g6]
          refine draw_script [.pure 0, .pure 5, .held [1, 2, 3, 4, 6, 7] 8, .one 9] (by kernel_rfl) (by kernel_rfl) (by kernel_rfl) ?_
          simp [go_sem, g6]
          haveI : Nonempty { W : World // TrueS W } := ⟨⟨W, trivial⟩⟩
          refine opsPh_held _ _ TrueS trivial ?_
          simp [go_sem]
          replace g := g.keep (Upd.refl noB _).drew
          replace own := own_keep0 own (Upd.refl noB _).drew
          refine CallP.mono (talkPart (k := 16) (by decide) g.rd) ?_
          rintro v W1 ⟨B, ownB, hL', u, st2, I, R2⟩
          replace own := own_above own u (fun i h => by subst h; exact lt.1)
          replace g := g.read u I
          clear u I
          obtain ⟨pd, cd, rfl, hcd⟩ := ownB.at.len
          have hL := bytes_len R2 hL'
          obtain ⟨a, e, hc, hst⟩ := g.rd.cell
          refine ⟨trivial, ?_⟩
          simp [go_sem]
          rcases hL with rfl | hL
          · simp [go_sem, K_copy_zero, g6]
            have RA : Rd (arrC 16) st st2 (zArr 16) := arr_of R2 (fun h => by simp at h)
            refine CallP.mono (talkEnd g.rd) ?_
            have hne := g.rd.ne
            rintro v W1 ⟨rfl, u, stE, I⟩
            replace own := own_above own u (fun i h => by subst h; exact lt.1)
            replace g := g.read u I
            clear u I
            have G := (askF0).of_rd (ask0_of R1 RD RA) hne
            obtain ⟨a, e, hc, hst⟩ := g.rd.cell
            by_cases hf : finE (st2) = 0
            · rw [if_pos hf] at G
              simp [go_sem, hf, hc, g.res, g4, g6]
              refine ⟨g.rd.u.setB _ _ (fun h => absurd h (by have := g.ne; omega)), ?_⟩
              rw [G]
              exact ⟨_, rfl, rfl, own_base (own_above own (Upd.setB (Upd.refl (fun x => x = rb) _) _ _ (fun _ => rfl)) (fun i h => by subst h; exact lt.2.1)) (Nat.le_of_lt lt.2.1), nil_own _ _, nilL _ _⟩
            · rw [if_neg hf] at G
              simp [go_sem, hf, g.res, g4, g6]
              exact ⟨g.rd.u.setB _ _ (fun h => absurd h (by have := g.ne; omega)), by rw [G]; rfl⟩
          · rw [K_copy_bytes (l := B) ownB.at (by omega) hc (by rw [rdC_size, rdA_size]; omega) hL.symm, rdA_guid _ _ _ _ ⟨B, hL⟩]
            have RA : Rd (arrC 16) st st2 ⟨B, hL⟩ := arr_of R2 (fun h => rfl)
            simp [go_sem, g6]
            refine gen_call ?_
            intro W2 hW2
            replace own := own_above own (by rw [hW2]; exact Upd.setB (Upd.refl (fun x => x = b) _) _ _ (fun _ => rfl) : Upd (fun x => x = b) W1 W2) (fun i h => by subst h; exact lt.1)
            replace g := g.set _ hc hst hW2
            clear hW2 hc hst
            refine CallP.mono (talkEnd g.rd) ?_
            have hne := g.rd.ne
            rintro v W1 ⟨rfl, u, stE, I⟩
            replace own := own_above own u (fun i h => by subst h; exact lt.1)
            replace g := g.read u I
            clear u I
            have G := (askF0).of_rd (ask0_of R1 RD RA) hne
            obtain ⟨a, e, hc, hst⟩ := g.rd.cell
            by_cases hf : finE (st2) = 0
            · rw [if_pos hf] at G
              simp [go_sem, hf, hc, g.res, g4, g6]
              refine ⟨g.rd.u.setB _ _ (fun h => absurd h (by have := g.ne; omega)), ?_⟩
              rw [G]
              exact ⟨_, rfl, rfl, own_base (own_above own (Upd.setB (Upd.refl (fun x => x = rb) _) _ _ (fun _ => rfl)) (fun i h => by subst h; exact lt.2.1)) (Nat.le_of_lt lt.2.1), nil_own _ _, nilL _ _⟩
            · rw [if_neg hf] at G
              simp [go_sem, hf, g.res, g4, g6]
              exact ⟨g.rd.u.setB _ _ (fun h => absurd h (by have := g.ne; omega)), by rw [G]; rfl⟩
  | ok r =>
    obtain ⟨rfl, hst⟩ := hst
    rcases (by omega : 16 < (n : Int) ∨ ¬ 16 < (n : Int)) with h16 | h16
    · have hm : ¬ (n : Int) ≤ 16 := by omega
      have R1 : Rd (mostC 2 16 3) (.ok l) (.error 3) (n : Int) := by
        have := chk_st (m := 16) (e := 3) RN (y := (n : Int)) (fun h => absurd h hm)
        simp only [chkSt, hm, decide_true, decide_false, if_true, if_false, Bool.false_eq_true] at this
        exact this
      simp [go_sem, hc, h16]
      refine gen_den ?_
      intro W2 hW2
      have u2 : Upd (fun x => x = b) W1 W2 := by rw [hW2]; exact (Upd.refl _ _).setB _ _ (fun _ => rfl)
      replace g := g.read u2 (g.rd.set (st' := .error 3) u2 (by rw [hW2, heap_setB, if_pos rfl, hc]; rfl) ⟨rfl, by decide⟩)
      replace hn1 := Nat.le_trans hn1 u2.size
      clear u2 hW2
      refine den_loop (DiaT w rb b p cap l (.error 3) n n0) n ?_ ?_
      · exact ⟨0, [], _, ⟨none, 0, 0⟩, rfl, by omega, rfl, RdL.start, by simp [go_sem], by simp [go_sem], by simp [go_sem], by simp [go_sem], g, nilW _ _, hn1⟩
      clear g hc hst
      rintro m ρ W ⟨i, L, st, d, rfl, hi, hL, RL, g7, g8, g4, g6, g, own, hnl⟩
      by_cases hrun : i < n ∧ ∃ r, st = .ok r
      · obtain ⟨hin, r, hst⟩ := hrun
        have hin' : (i : Int) < n := by omega
        obtain ⟨a, e, hc, hso⟩ := g.rd.cell
        rw [hst] at hso
        obtain ⟨rfl, _⟩ := hso
        have hwr : IntKind.u64.wrap ((i : Int) + 1) = ((i + 1 : Nat) : Int) := by rw [wrap64 (by omega) (by omega)]; omega
        simp [go_sem, g7, g8, g4, g6, hin', hin, hc]
        refine Go.Eng.Ch.draw_script [.pure 0, .pure 1, .pure 6, .chain [2, 3, 4, 5, 7, 8] [9, 10, 11], .one 12, .one 13, .pure 14, .pure 15, .one 16] (by kernel_rfl) (by kernel_rfl) (by kernel_rfl) ?_
        simp [go_sem, g6]
        obtain ⟨A, hA⟩ : ∃ A : AskV, A = { zeroA with dialects := d } := ⟨_, rfl⟩
        have hAd : A.dialects = d := by rw [hA]
        rw [← hA] at g hc
        have hS0 : RdS0 b p cap l A W.drew := ⟨_, _, hc⟩
        haveI : Nonempty { W : World // RdS0 b p cap l A W } := ⟨⟨W.drew, hS0⟩⟩
        have g := g.keep (Upd.refl noB W).drew
        have own := own_keep0 own (Upd.refl noB W).drew
        refine Go.Eng.Ch.opsPh_chain _ _ _ hS0 ?_
        have ql := Q_load_fix (P := Tryz.prog) (W := fun i : { W : World // RdS0 b p cap l A W } => i.1) (fun i => i.2.load)
        simp [go_sem, ql, hAd]
        refine CallP.mono (talkN (k := 2) (by decide) g.rd) ?_
        rintro v W1 ⟨x, rfl, p2, q2, u, st2, I, R⟩
        have hx : IntKind.u16.wrap x = x := wrap16 p2 q2
        replace g := g.read u I
        replace own := own_above own u (fun i h => by subst h; exact lt.1)
        have hn2 : n0 ≤ W1.heap.size := Nat.le_trans hnl u.size
        obtain ⟨a1, e1, hc1, hst1⟩ := g.rd.cell
        have hS1 : RdS0 b p cap l A W1 := ⟨_, _, hc1⟩
        simp [go_sem, Go.Eng.Ch.contJ_app hS1, hx]
        have hb1 := slU16.build1K (w := W1) (u16V x) rfl (by decide)
        simp only [Value.cells, u16V] at hb1
        have gd := g.keep ((Upd.refl noB W1).alloc (.cells #[.int .u16 x] 22))
        obtain ⟨a3, e3, hc3, hst3⟩ := gd.rd.cell
        have hS2 : RdS0 b p cap l A (W1.alloc (.cells #[.int .u16 x] 22)) := ⟨_, _, hc3⟩
        obtain ⟨v', W2, hrun, own2, u2⟩ := sl_pushR slU16 own [u16V x] rfl (by intro u hu; simp at hu; subst hu; rfl) 29 (by omega) (by simp [maxLen]; omega) hn2
        simp only [u16V] at hrun
        simp [hb1, go_sem, Go.Eng.Ch.contJ_app hS2, K_append_ok _ _ _ _ hrun]
        have g2 := g.keepN lt u2
        obtain ⟨d2p, d2n, d2c, rfl⟩ : ∃ p n c, v' = .slice p n c := by
          obtain ⟨q, c, h⟩ := (RowAt.of_own own2).len
          exact ⟨q, _, c, h⟩
        obtain ⟨a2, e2, hc2, hst2⟩ := g2.rd.cell
        simp [go_sem, g4, g6, g7, g8, hwr, hc2]
        have hA2 : ({ A with dialects := ⟨d2p, d2n, d2c⟩ } : AskV) = { zeroA with dialects := ⟨d2p, d2n, d2c⟩ } := by rw [hA]
        refine ⟨n - (i + 1), by omega, i + 1, L ++ [x], st2, ⟨d2p, d2n, d2c⟩, rfl, by omega, by simp [hL], RL.step hin R, by simp [go_sem, g7], by simp [go_sem], by simp [go_sem, g4], by simp [go_sem, g6], g2.set _ hc2 hst2 (by rw [← hA2]), ?_, ?_⟩
        · have o := own_above own2 (Upd.setB (Upd.refl (fun x => x = b) W2) b (.cells (rdC (.slice p l.length cap) a2 e2 (AskV.cells { A with dialects := ⟨d2p, d2n, d2c⟩ }).toList) 161) (fun _ => rfl)) (fun i h => by subst h; exact lt.1)
          unfold OwnW
          rw [List.length_append, List.map_append]
          exact o
        · rw [size_setB]
          exact Nat.le_trans hn2 u2.size
      · by_cases hin : i < n
        · have hin' : (i : Int) < n := by omega
          obtain ⟨a, e, hc, hso⟩ := g.rd.cell
          cases st with
          | ok r => exact absurd ⟨hin, r, rfl⟩ hrun
          | error z =>
            obtain ⟨rfl, hz⟩ := hso
            have RD := RL.err
            simp [go_sem, g7, g8, g4, g6, hin', hin, hc, hz]
            obtain ⟨st, hste⟩ : ∃ st : Except Int (List UInt8), st = .error e := ⟨_, rfl⟩
            rw [← hste] at g RD
            refine draw_script [.pure 0, .pure 5, .held [1, 2, 3, 4, 6, 7] 8, .one 9] (by kernel_rfl) (by kernel_rfl) (by kernel_rfl) ?_
            simp [go_sem, g6]
            haveI : Nonempty { W : World // TrueS W } := ⟨⟨W, trivial⟩⟩
            refine opsPh_held _ _ TrueS trivial ?_
            simp [go_sem]
            replace g := g.keep (Upd.refl noB _).drew
            replace own := own_keep0 own (Upd.refl noB _).drew
            refine CallP.mono (talkPart (k := 16) (by decide) g.rd) ?_
            rintro v W1 ⟨B, ownB, hL', u, st2, I, R2⟩
            replace own := own_above own u (fun i h => by subst h; exact lt.1)
            replace g := g.read u I
            clear u I
            obtain ⟨pd, cd, rfl, hcd⟩ := ownB.at.len
            have hL := bytes_len R2 hL'
            obtain ⟨a, e, hc, hst⟩ := g.rd.cell
            refine ⟨trivial, ?_⟩
            simp [go_sem]
            rcases hL with rfl | hL
            · simp [go_sem, K_copy_zero, g6]
              have RA : Rd (arrC 16) st st2 (zArr 16) := arr_of R2 (fun h => by simp at h)
              refine CallP.mono (talkEnd g.rd) ?_
              have hne := g.rd.ne
              rintro v W1 ⟨rfl, u, stE, I⟩
              replace own := own_above own u (fun i h => by subst h; exact lt.1)
              replace g := g.read u I
              clear u I
              have G := (askF0).of_rd (ask0_of R1 RD RA) hne
              obtain ⟨a, e, hc, hst⟩ := g.rd.cell
              by_cases hf : finE (st2) = 0
              · rw [if_pos hf] at G
                simp [go_sem, hf, hc, g.res, g4, g6]
                refine ⟨g.rd.u.setB _ _ (fun h => absurd h (by have := g.ne; omega)), ?_⟩
                rw [G]
                exact ⟨_, rfl, rfl, own_base (own_above own (Upd.setB (Upd.refl (fun x => x = rb) _) _ _ (fun _ => rfl)) (fun i h => by subst h; exact lt.2.1)) (Nat.le_of_lt lt.2.1), nil_own _ _, nilL _ _⟩
              · rw [if_neg hf] at G
                simp [go_sem, hf, g.res, g4, g6]
                exact ⟨g.rd.u.setB _ _ (fun h => absurd h (by have := g.ne; omega)), by rw [G]; rfl⟩
            · rw [K_copy_bytes (l := B) ownB.at (by omega) hc (by rw [rdC_size, rdA_size]; omega) hL.symm, rdA_guid _ _ _ _ ⟨B, hL⟩]
              have RA : Rd (arrC 16) st st2 ⟨B, hL⟩ := arr_of R2 (fun h => rfl)
              simp [go_sem, g6]
              refine gen_call ?_
              intro W2 hW2
              replace own := own_above own (by rw [hW2]; exact Upd.setB (Upd.refl (fun x => x = b) _) _ _ (fun _ => rfl) : Upd (fun x => x = b) W1 W2) (fun i h => by subst h; exact lt.1)
              replace g := g.set _ hc hst hW2
              clear hW2 hc hst
              refine CallP.mono (talkEnd g.rd) ?_
              have hne := g.rd.ne
              rintro v W1 ⟨rfl, u, stE, I⟩
              replace own := own_above own u (fun i h => by subst h; exact lt.1)
              replace g := g.read u I
              clear u I
              have G := (askF0).of_rd (ask0_of R1 RD RA) hne
              obtain ⟨a, e, hc, hst⟩ := g.rd.cell
              by_cases hf : finE (st2) = 0
              · rw [if_pos hf] at G
                simp [go_sem, hf, hc, g.res, g4, g6]
                refine ⟨g.rd.u.setB _ _ (fun h => absurd h (by have := g.ne; omega)), ?_⟩
                rw [G]
                exact ⟨_, rfl, rfl, own_base (own_above own (Upd.setB (Upd.refl (fun x => x = rb) _) _ _ (fun _ => rfl)) (fun i h => by subst h; exact lt.2.1)) (Nat.le_of_lt lt.2.1), nil_own _ _, nilL _ _⟩
              · rw [if_neg hf] at G
                simp [go_sem, hf, g.res, g4, g6]
                exact ⟨g.rd.u.setB _ _ (fun h => absurd h (by have := g.ne; omega)), by rw [G]; rfl⟩
        · have hi' : i = n := by omega
          subst hi'
          have RD := RL.done
          simp [go_sem, g7, g8, g4, g6]
          refine draw_script [.pure 0, .pure 5, .held [1, 2, 3, 4, 6, 7] 8, .one 9] (by kernel_rfl) (by kernel_rfl) (by kernel_rfl) ?_
          simp [go_sem, g6]
          haveI : Nonempty { W : World // TrueS W } := ⟨⟨W, trivial⟩⟩
          refine opsPh_held _ _ TrueS trivial ?_
          simp [go_sem]
          replace g := g.keep (Upd.refl noB _).drew
          replace own := own_keep0 own (Upd.refl noB _).drew
          refine CallP.mono (talkPart (k := 16) (by decide) g.rd) ?_
          rintro v W1 ⟨B, ownB, hL', u, st2, I, R2⟩
          replace own := own_above own u (fun i h => by subst h; exact lt.1)
          replace g := g.read u I
          clear u I
          obtain ⟨pd, cd, rfl, hcd⟩ := ownB.at.len
          have hL := bytes_len R2 hL'
          obtain ⟨a, e, hc, hst⟩ := g.rd.cell
          refine ⟨trivial, ?_⟩
          simp [go_sem]
          rcases hL with rfl | hL
          · simp [go_sem, K_copy_zero, g6]
            have RA : Rd (arrC 16) st st2 (zArr 16) := arr_of R2 (fun h => by simp at h)
            refine CallP.mono (talkEnd g.rd) ?_
            have hne := g.rd.ne
            rintro v W1 ⟨rfl, u, stE, I⟩
            replace own := own_above own u (fun i h => by subst h; exact lt.1)
            replace g := g.read u I
            clear u I
            have G := (askF0).of_rd (ask0_of R1 RD RA) hne
            obtain ⟨a, e, hc, hst⟩ := g.rd.cell
            by_cases hf : finE (st2) = 0
            · rw [if_pos hf] at G
              simp [go_sem, hf, hc, g.res, g4, g6]
              refine ⟨g.rd.u.setB _ _ (fun h => absurd h (by have := g.ne; omega)), ?_⟩
              rw [G]
              exact ⟨_, rfl, rfl, own_base (own_above own (Upd.setB (Upd.refl (fun x => x = rb) _) _ _ (fun _ => rfl)) (fun i h => by subst h; exact lt.2.1)) (Nat.le_of_lt lt.2.1), nil_own _ _, nilL _ _⟩
            · rw [if_neg hf] at G
              simp [go_sem, hf, g.res, g4, g6]
              exact ⟨g.rd.u.setB _ _ (fun h => absurd h (by have := g.ne; omega)), by rw [G]; rfl⟩
          · rw [K_copy_bytes (l := B) ownB.at (by omega) hc (by rw [rdC_size, rdA_size]; omega) hL.symm, rdA_guid _ _ _ _ ⟨B, hL⟩]
            have RA : Rd (arrC 16) st st2 ⟨B, hL⟩ := arr_of R2 (fun h => rfl)
            simp [go_sem, g6]
            refine gen_call ?_
            intro W2 hW2
            replace own := own_above own (by rw [hW2]; exact Upd.setB (Upd.refl (fun x => x = b) _) _ _ (fun _ => rfl) : Upd (fun x => x = b) W1 W2) (fun i h => by subst h; exact lt.1)
            replace g := g.set _ hc hst hW2
            clear hW2 hc hst
            refine CallP.mono (talkEnd g.rd) ?_
            have hne := g.rd.ne
            rintro v W1 ⟨rfl, u, stE, I⟩
            replace own := own_above own u (fun i h => by subst h; exact lt.1)
            replace g := g.read u I
            clear u I
            have G := (askF0).of_rd (ask0_of R1 RD RA) hne
            obtain ⟨a, e, hc, hst⟩ := g.rd.cell
            by_cases hf : finE (st2) = 0
            · rw [if_pos hf] at G
              simp [go_sem, hf, hc, g.res, g4, g6]
              refine ⟨g.rd.u.setB _ _ (fun h => absurd h (by have := g.ne; omega)), ?_⟩
              rw [G]
              exact ⟨_, rfl, rfl, own_base (own_above own (Upd.setB (Upd.refl (fun x => x = rb) _) _ _ (fun _ => rfl)) (fun i h => by subst h; exact lt.2.1)) (Nat.le_of_lt lt.2.1), nil_own _ _, nilL _ _⟩
            · rw [if_neg hf] at G
              simp [go_sem, hf, g.res, g4, g6]
              exact ⟨g.rd.u.setB _ _ (fun h => absurd h (by have := g.ne; omega)), by rw [G]; rfl⟩
    · have hm : (n : Int) ≤ 16 := by omega
      have R1 : Rd (mostC 2 16 3) (.ok l) (.ok r) (n : Int) := by
        have := chk_st (m := 16) (e := 3) RN (y := (n : Int)) (fun _ => rfl)
        simp only [chkSt, hm, decide_true, decide_false, if_true, if_false, Bool.false_eq_true] at this
        exact this
      simp [go_sem, hc, h16]
      refine den_loop (DiaT w rb b p cap l (.ok r) n n0) n ?_ ?_
      · exact ⟨0, [], _, ⟨none, 0, 0⟩, rfl, by omega, rfl, RdL.start, by simp [go_sem], by simp [go_sem], by simp [go_sem], by simp [go_sem], g, nilW _ _, hn1⟩
      clear g hc hst
      rintro m ρ W ⟨i, L, st, d, rfl, hi, hL, RL, g7, g8, g4, g6, g, own, hnl⟩
      by_cases hrun : i < n ∧ ∃ r, st = .ok r
      · obtain ⟨hin, r, hst⟩ := hrun
        have hin' : (i : Int) < n := by omega
        obtain ⟨a, e, hc, hso⟩ := g.rd.cell
        rw [hst] at hso
        obtain ⟨rfl, _⟩ := hso
        have hwr : IntKind.u64.wrap ((i : Int) + 1) = ((i + 1 : Nat) : Int) := by rw [wrap64 (by omega) (by omega)]; omega
        simp [go_sem, g7, g8, g4, g6, hin', hin, hc]
        refine Go.Eng.Ch.draw_script [.pure 0, .pure 1, .pure 6, .chain [2, 3, 4, 5, 7, 8] [9, 10, 11], .one 12, .one 13, .pure 14, .pure 15, .one 16] (by kernel_rfl) (by kernel_rfl) (by kernel_rfl) ?_
        simp [go_sem, g6]
        obtain ⟨A, hA⟩ : ∃ A : AskV, A = { zeroA with dialects := d } := ⟨_, rfl⟩
        have hAd : A.dialects = d := by rw [hA]
        rw [← hA] at g hc
        have hS0 : RdS0 b p cap l A W.drew := ⟨_, _, hc⟩
        haveI : Nonempty { W : World // RdS0 b p cap l A W } := ⟨⟨W.drew, hS0⟩⟩
        have g := g.keep (Upd.refl noB W).drew
        have own := own_keep0 own (Upd.refl noB W).drew
        refine Go.Eng.Ch.opsPh_chain _ _ _ hS0 ?_
        have ql := Q_load_fix (P := Tryz.prog) (W := fun i : { W : World // RdS0 b p cap l A W } => i.1) (fun i => i.2.load)
        simp [go_sem, ql, hAd]
        refine CallP.mono (talkN (k := 2) (by decide) g.rd) ?_
        rintro v W1 ⟨x, rfl, p2, q2, u, st2, I, R⟩
        have hx : IntKind.u16.wrap x = x := wrap16 p2 q2
        replace g := g.read u I
        replace own := own_above own u (fun i h => by subst h; exact lt.1)
        have hn2 : n0 ≤ W1.heap.size := Nat.le_trans hnl u.size
        obtain ⟨a1, e1, hc1, hst1⟩ := g.rd.cell
        have hS1 : RdS0 b p cap l A W1 := ⟨_, _, hc1⟩
        simp [go_sem, Go.Eng.Ch.contJ_app hS1, hx]
        have hb1 := slU16.build1K (w := W1) (u16V x) rfl (by decide)
        simp only [Value.cells, u16V] at hb1
        have gd := g.keep ((Upd.refl noB W1).alloc (.cells #[.int .u16 x] 22))
        obtain ⟨a3, e3, hc3, hst3⟩ := gd.rd.cell
        have hS2 : RdS0 b p cap l A (W1.alloc (.cells #[.int .u16 x] 22)) := ⟨_, _, hc3⟩
        obtain ⟨v', W2, hrun, own2, u2⟩ := sl_pushR slU16 own [u16V x] rfl (by intro u hu; simp at hu; subst hu; rfl) 29 (by omega) (by simp [maxLen]; omega) hn2
        simp only [u16V] at hrun
        simp [hb1, go_sem, Go.Eng.Ch.contJ_app hS2, K_append_ok _ _ _ _ hrun]
        have g2 := g.keepN lt u2
        obtain ⟨d2p, d2n, d2c, rfl⟩ : ∃ p n c, v' = .slice p n c := by
          obtain ⟨q, c, h⟩ := (RowAt.of_own own2).len
          exact ⟨q, _, c, h⟩
        obtain ⟨a2, e2, hc2, hst2⟩ := g2.rd.cell
        simp [go_sem, g4, g6, g7, g8, hwr, hc2]
        have hA2 : ({ A with dialects := ⟨d2p, d2n, d2c⟩ } : AskV) = { zeroA with dialects := ⟨d2p, d2n, d2c⟩ } := by rw [hA]
        refine ⟨n - (i + 1), by omega, i + 1, L ++ [x], st2, ⟨d2p, d2n, d2c⟩, rfl, by omega, by simp [hL], RL.step hin R, by simp [go_sem, g7], by simp [go_sem], by simp [go_sem, g4], by simp [go_sem, g6], g2.set _ hc2 hst2 (by rw [← hA2]), ?_, ?_⟩
        · have o := own_above own2 (Upd.setB (Upd.refl (fun x => x = b) W2) b (.cells (rdC (.slice p l.length cap) a2 e2 (AskV.cells { A with dialects := ⟨d2p, d2n, d2c⟩ }).toList) 161) (fun _ => rfl)) (fun i h => by subst h; exact lt.1)
          unfold OwnW
          rw [List.length_append, List.map_append]
          exact o
        · rw [size_setB]
          exact Nat.le_trans hn2 u2.size
      · by_cases hin : i < n
        · have hin' : (i : Int) < n := by omega
          obtain ⟨a, e, hc, hso⟩ := g.rd.cell
          cases st with
          | ok r => exact absurd ⟨hin, r, rfl⟩ hrun
          | error z =>
            obtain ⟨rfl, hz⟩ := hso
            have RD := RL.err
            simp [go_sem, g7, g8, g4, g6, hin', hin, hc, hz]
            obtain ⟨st, hste⟩ : ∃ st : Except Int (List UInt8), st = .error e := ⟨_, rfl⟩
            rw [← hste] at g RD
            refine draw_script [.pure 0, .pure 5, .held [1, 2, 3, 4, 6, 7] 8, .one 9] (by kernel_rfl) (by kernel_rfl) (by kernel_rfl) ?_
            simp [go_sem, g6]
            haveI : Nonempty { W : World // TrueS W } := ⟨⟨W, trivial⟩⟩
            refine opsPh_held _ _ TrueS trivial ?_
            simp [go_sem]
            replace g := g.keep (Upd.refl noB _).drew
            replace own := own_keep0 own (Upd.refl noB _).drew
            refine CallP.mono (talkPart (k := 16) (by decide) g.rd) ?_
            rintro v W1 ⟨B, ownB, hL', u, st2, I, R2⟩
            replace own := own_above own u (fun i h => by subst h; exact lt.1)
            replace g := g.read u I
            clear u I
            obtain ⟨pd, cd, rfl, hcd⟩ := ownB.at.len
            have hL := bytes_len R2 hL'
            obtain ⟨a, e, hc, hst⟩ := g.rd.cell
            refine ⟨trivial, ?_⟩
            simp [go_sem]
            rcases hL with rfl | hL
            · simp [go_sem, K_copy_zero, g6]
              have RA : Rd (arrC 16) st st2 (zArr 16) := arr_of R2 (fun h => by simp at h)
              refine CallP.mono (talkEnd g.rd) ?_
              have hne := g.rd.ne
              rintro v W1 ⟨rfl, u, stE, I⟩
              replace own := own_above own u (fun i h => by subst h; exact lt.1)
              replace g := g.read u I
              clear u I
              have G := (askF0).of_rd (ask0_of R1 RD RA) hne
              obtain ⟨a, e, hc, hst⟩ := g.rd.cell
              by_cases hf : finE (st2) = 0
              · rw [if_pos hf] at G
                simp [go_sem, hf, hc, g.res, g4, g6]
                refine ⟨g.rd.u.setB _ _ (fun h => absurd h (by have := g.ne; omega)), ?_⟩
                rw [G]
                exact ⟨_, rfl, rfl, own_base (own_above own (Upd.setB (Upd.refl (fun x => x = rb) _) _ _ (fun _ => rfl)) (fun i h => by subst h; exact lt.2.1)) (Nat.le_of_lt lt.2.1), nil_own _ _, nilL _ _⟩
              · rw [if_neg hf] at G
                simp [go_sem, hf, g.res, g4, g6]
                exact ⟨g.rd.u.setB _ _ (fun h => absurd h (by have := g.ne; omega)), by rw [G]; rfl⟩
            · rw [K_copy_bytes (l := B) ownB.at (by omega) hc (by rw [rdC_size, rdA_size]; omega) hL.symm, rdA_guid _ _ _ _ ⟨B, hL⟩]
              have RA : Rd (arrC 16) st st2 ⟨B, hL⟩ := arr_of R2 (fun h => rfl)
              simp [go_sem, g6]
              refine gen_call ?_
              intro W2 hW2
              replace own := own_above own (by rw [hW2]; exact Upd.setB (Upd.refl (fun x => x = b) _) _ _ (fun _ => rfl) : Upd (fun x => x = b) W1 W2) (fun i h => by subst h; exact lt.1)
              replace g := g.set _ hc hst hW2
              clear hW2 hc hst
              refine CallP.mono (talkEnd g.rd) ?_
              have hne := g.rd.ne
              rintro v W1 ⟨rfl, u, stE, I⟩
              replace own := own_above own u (fun i h => by subst h; exact lt.1)
              replace g := g.read u I
              clear u I
              have G := (askF0).of_rd (ask0_of R1 RD RA) hne
              obtain ⟨a, e, hc, hst⟩ := g.rd.cell
              by_cases hf : finE (st2) = 0
              · rw [if_pos hf] at G
                simp [go_sem, hf, hc, g.res, g4, g6]
                refine ⟨g.rd.u.setB _ _ (fun h => absurd h (by have := g.ne; omega)), ?_⟩
                rw [G]
                exact ⟨_, rfl, rfl, own_base (own_above own (Upd.setB (Upd.refl (fun x => x = rb) _) _ _ (fun _ => rfl)) (fun i h => by subst h; exact lt.2.1)) (Nat.le_of_lt lt.2.1), nil_own _ _, nilL _ _⟩
              · rw [if_neg hf] at G
                simp [go_sem, hf, g.res, g4, g6]
                exact ⟨g.rd.u.setB _ _ (fun h => absurd h (by have := g.ne; omega)), by rw [G]; rfl⟩
        · have hi' : i = n := by omega
          subst hi'
          have RD := RL.done
          simp [go_sem, g7, g8, g4, g6]
          refine draw_script [.pure 0, .pure 5, .held [1, 2, 3, 4, 6, 7] 8, .one 9] (by kernel_rfl) (by kernel_rfl) (by kernel_rfl) ?_
          simp [go_sem, g6]
          haveI : Nonempty { W : World // TrueS W } := ⟨⟨W, trivial⟩⟩
          refine opsPh_held _ _ TrueS trivial ?_
          simp [go_sem]
          replace g := g.keep (Upd.refl noB _).drew
          replace own := own_keep0 own (Upd.refl noB _).drew
          refine CallP.mono (talkPart (k := 16) (by decide) g.rd) ?_
          rintro v W1 ⟨B, ownB, hL', u, st2, I, R2⟩
          replace own := own_above own u (fun i h => by subst h; exact lt.1)
          replace g := g.read u I
          clear u I
          obtain ⟨pd, cd, rfl, hcd⟩ := ownB.at.len
          have hL := bytes_len R2 hL'
          obtain ⟨a, e, hc, hst⟩ := g.rd.cell
          refine ⟨trivial, ?_⟩
          simp [go_sem]
          rcases hL with rfl | hL
          · simp [go_sem, K_copy_zero, g6]
            have RA : Rd (arrC 16) st st2 (zArr 16) := arr_of R2 (fun h => by simp at h)
            refine CallP.mono (talkEnd g.rd) ?_
            have hne := g.rd.ne
            rintro v W1 ⟨rfl, u, stE, I⟩
            replace own := own_above own u (fun i h => by subst h; exact lt.1)
            replace g := g.read u I
            clear u I
            have G := (askF0).of_rd (ask0_of R1 RD RA) hne
            obtain ⟨a, e, hc, hst⟩ := g.rd.cell
            by_cases hf : finE (st2) = 0
            · rw [if_pos hf] at G
              simp [go_sem, hf, hc, g.res, g4, g6]
              refine ⟨g.rd.u.setB _ _ (fun h => absurd h (by have := g.ne; omega)), ?_⟩
              rw [G]
              exact ⟨_, rfl, rfl, own_base (own_above own (Upd.setB (Upd.refl (fun x => x = rb) _) _ _ (fun _ => rfl)) (fun i h => by subst h; exact lt.2.1)) (Nat.le_of_lt lt.2.1), nil_own _ _, nilL _ _⟩
            · rw [if_neg hf] at G
              simp [go_sem, hf, g.res, g4, g6]
              exact ⟨g.rd.u.setB _ _ (fun h => absurd h (by have := g.ne; omega)), by rw [G]; rfl⟩
          · rw [K_copy_bytes (l := B) ownB.at (by omega) hc (by rw [rdC_size, rdA_size]; omega) hL.symm, rdA_guid _ _ _ _ ⟨B, hL⟩]
            have RA : Rd (arrC 16) st st2 ⟨B, hL⟩ := arr_of R2 (fun h => rfl)
            simp [go_sem, g6]
            refine gen_call ?_
            intro W2 hW2
            replace own := own_above own (by rw [hW2]; exact Upd.setB (Upd.refl (fun x => x = b) _) _ _ (fun _ => rfl) : Upd (fun x => x = b) W1 W2) (fun i h => by subst h; exact lt.1)
            replace g := g.set _ hc hst hW2
            clear hW2 hc hst
            refine CallP.mono (talkEnd g.rd) ?_
            have hne := g.rd.ne
            rintro v W1 ⟨rfl, u, stE, I⟩
            replace own := own_above own u (fun i h => by subst h; exact lt.1)
            replace g := g.read u I
            clear u I
            have G := (askF0).of_rd (ask0_of R1 RD RA) hne
            obtain ⟨a, e, hc, hst⟩ := g.rd.cell
            by_cases hf : finE (st2) = 0
            · rw [if_pos hf] at G
              simp [go_sem, hf, hc, g.res, g4, g6]
              refine ⟨g.rd.u.setB _ _ (fun h => absurd h (by have := g.ne; omega)), ?_⟩
              rw [G]
              exact ⟨_, rfl, rfl, own_base (own_above own (Upd.setB (Upd.refl (fun x => x = rb) _) _ _ (fun _ => rfl)) (fun i h => by subst h; exact lt.2.1)) (Nat.le_of_lt lt.2.1), nil_own _ _, nilL _ _⟩
            · rw [if_neg hf] at G
              simp [go_sem, hf, g.res, g4, g6]
              exact ⟨g.rd.u.setB _ _ (fun h => absurd h (by have := g.ne; omega)), by rw [G]; rfl⟩
end Go.Proofs.YtinfdomlpbikaaaGreatDoor
namespace Go.Proofs.YtinfdomlpbikaaaGreatDoor
open Go.Eng Go.Lib
set_option linter.unusedSimpArgs false
set_option linter.unusedVariables false
set_option maxRecDepth 100000
variable {w w0 : World}
def askG (c : Int) (l : List UInt8) : Except Int AskS := match askF c with
  | some F => F.get l
  | none => .error 2
def sayG (c : Int) (l : List UInt8) : Except Int SayS := match sayF c with
  | some F => F.get l
  | none => .error 5
theorem askG_of {c : Int} {F : Fmt AskS} (h : askF c = some F) (l : List UInt8) : askG c l = F.get l := by unfold askG; rw [h]
theorem sayG_of {c : Int} {F : Fmt SayS} (h : sayF c = some F) (l : List UInt8) : sayG c l = F.get l := by unfold sayG; rw [h]
theorem in8 {c : Int} (h0 : 0 ≤ c) (h : known8 c = true) : c = 0 ∨ c = 1 ∨ c = 2 ∨ c = 3 ∨ c = 4 ∨ c = 13 := by simp [known8] at h; omega
theorem in9 {c : Int} (h : known9 c = true) : c = 5 ∨ c = 6 ∨ c = 7 ∨ c = 8 ∨ c = 9 ∨ c = 10 := by simp [known9] at h; omega
theorem in10 {c : Int} (h : known10 c = true) : c = 12 ∨ c = 14 ∨ c = 16 ∨ c = 17 ∨ c = 18 := by simp [known10] at h; omega
theorem askF_0 : askF 0 = some askF0 := by simp [askF]
theorem askF_1 : askF 1 = some askF1 := by simp [askF]
theorem askF_2 : askF 2 = some askFz := by simp [askF]
theorem askF_3 : askF 3 = some askF3 := by simp [askF]
theorem askF_4 : askF 4 = some askFz := by simp [askF]
theorem askF_13 : askF 13 = some askFz := by simp [askF]
theorem askF_5 : askF 5 = some askF5 := by simp [askF]
theorem askF_6 : askF 6 = some askFf := by simp [askF]
theorem askF_7 : askF 7 = some askFf := by simp [askF]
theorem askF_8 : askF 8 = some askF8 := by simp [askF]
theorem askF_9 : askF 9 = some askF9 := by simp [askF]
theorem askF_10 : askF 10 = some askF10 := by simp [askF]
theorem askF_12 : askF 12 = some askFz := by simp [askF]
theorem askF_14 : askF 14 = some askF14 := by simp [askF]
theorem askF_16 : askF 16 = some askFf := by simp [askF]
theorem askF_17 : askF 17 = some askF17 := by simp [askF]
theorem askF_18 : askF 18 = some askF18 := by simp [askF]
theorem sayF_0 : sayF 0 = some sayF0 := by simp [sayF]
theorem sayF_1 : sayF 1 = some sayFz := by simp [sayF]
theorem sayF_2 : sayF 2 = some sayFz := by simp [sayF]
theorem sayF_3 : sayF 3 = some sayFz := by simp [sayF]
theorem sayF_4 : sayF 4 = some sayFz := by simp [sayF]
theorem sayF_13 : sayF 13 = some sayFz := by simp [sayF]
theorem sayF_5 : sayF 5 = some sayF5 := by simp [sayF]
theorem sayF_6 : sayF 6 = some sayFz := by simp [sayF]
theorem sayF_7 : sayF 7 = some sayFz := by simp [sayF]
theorem sayF_8 : sayF 8 = some sayF8 := by simp [sayF]
theorem sayF_9 : sayF 9 = some sayF9 := by simp [sayF]
theorem sayF_10 : sayF 10 = some sayFz := by simp [sayF]
theorem sayF_14 : sayF 14 = some sayF14 := by simp [sayF]
theorem sayF_16 : sayF 16 = some sayF16 := by simp [sayF]
theorem sayF_17 : sayF 17 = some sayFz := by simp [sayF]
theorem sayF_18 : sayF 18 = some sayF18 := by simp [sayF]
theorem ref08GetAsk_any {c : Int} (h0 : 0 ≤ c) (hk : known8 c = true) {s : Value} {l : List UInt8} (hb : BytesAt w s l) (hl : l.length ≤ 1099511627776) :
    CallP Tryz.prog 73 #[.int .u16 c, s] w (fun r w' => Upd noB w w' ∧ AskRes w' w.heap.size r (askG c l)) := by
  rcases in8 h0 hk with rfl | rfl | rfl | rfl | rfl | rfl
  · rw [askG_of askF_0]; exact ref08GetAsk0 hb hl
  · rw [askG_of askF_1]; exact ref08GetAsk1 hb hl
  · rw [askG_of askF_2]; exact ref08GetAsk2 hb hl
  · rw [askG_of askF_3]; exact ref08GetAsk3 hb hl
  · rw [askG_of askF_4]; exact ref08GetAsk4 hb hl
  · rw [askG_of askF_13]; exact ref08GetAsk13 hb hl
theorem ref08GetSay_any {c : Int} (h0 : 0 ≤ c) (hk : known8 c = true) {s : Value} {l : List UInt8} (hb : BytesAt w s l) (hl : l.length ≤ 1099511627776) :
    CallP Tryz.prog 76 #[.int .u16 c, s] w (fun r w' => Upd noB w w' ∧ SayRes w' w.heap.size r (sayG c l)) := by
  rcases in8 h0 hk with rfl | rfl | rfl | rfl | rfl | rfl
  · rw [sayG_of sayF_0]; exact ref08GetSay0 hb hl
  · rw [sayG_of sayF_1]; exact ref08GetSay1 hb hl
  · rw [sayG_of sayF_2]; exact ref08GetSay2 hb hl
  · rw [sayG_of sayF_3]; exact ref08GetSay3 hb hl
  · rw [sayG_of sayF_4]; exact ref08GetSay4 hb hl
  · rw [sayG_of sayF_13]; exact ref08GetSay13 hb hl
theorem talkGetAsk_any {c : Int} (h0 : 0 ≤ c) (hk : known8 c = true) {s : Value} {l : List UInt8} (hb : BytesAt w s l) (hl : l.length ≤ 1099511627776) :
    CallP Tryz.prog 93 #[.int .u16 c, s] w (fun r w' => Upd noB w w' ∧ AskRes w' w.heap.size r (askG c l)) := by
  rcases in8 h0 hk with rfl | rfl | rfl | rfl | rfl | rfl
  · rw [askG_of askF_0]; exact talkGetAsk0 hb hl
  · rw [askG_of askF_1]; exact talkGetAsk1 hb hl
  · rw [askG_of askF_2]; exact talkGetAsk2 hb hl
  · rw [askG_of askF_3]; exact talkGetAsk3 hb hl
  · rw [askG_of askF_4]; exact talkGetAsk4 hb hl
  · rw [askG_of askF_13]; exact talkGetAsk13 hb hl
theorem talkGetSay_any {c : Int} (h0 : 0 ≤ c) (hk : known8 c = true) {s : Value} {l : List UInt8} (hb : BytesAt w s l) (hl : l.length ≤ 1099511627776) :
    CallP Tryz.prog 95 #[.int .u16 c, s] w (fun r w' => Upd noB w w' ∧ SayRes w' w.heap.size r (sayG c l)) := by
  rcases in8 h0 hk with rfl | rfl | rfl | rfl | rfl | rfl
  · rw [sayG_of sayF_0]; exact talkGetSay0 hb hl
  · rw [sayG_of sayF_1]; exact talkGetSay1 hb hl
  · rw [sayG_of sayF_2]; exact talkGetSay2 hb hl
  · rw [sayG_of sayF_3]; exact talkGetSay3 hb hl
  · rw [sayG_of sayF_4]; exact talkGetSay4 hb hl
  · rw [sayG_of sayF_13]; exact talkGetSay13 hb hl
theorem ref09GetAsk_any {c : Int} (h0 : 0 ≤ c) (hk : known9 c = true) {s : Value} {l : List UInt8} (hb : BytesAt w s l) (hl : l.length ≤ 1099511627776) :
    CallP Tryz.prog 74 #[.int .u16 c, s] w (fun r w' => Upd noB w w' ∧ AskRes w' w.heap.size r (askG c l)) := by
  rcases in9 hk with rfl | rfl | rfl | rfl | rfl | rfl
  · rw [askG_of askF_5]; exact ref09GetAsk5 hb hl
  · rw [askG_of askF_6]; exact ref09GetAsk6 hb hl
  · rw [askG_of askF_7]; exact ref09GetAsk7 hb hl
  · rw [askG_of askF_8]; exact ref09GetAsk8 hb hl
  · rw [askG_of askF_9]; exact ref09GetAsk9 hb hl
  · rw [askG_of askF_10]; exact ref09GetAsk10 hb hl
theorem ref09GetSay_any {c : Int} (h0 : 0 ≤ c) (hk : known9 c = true) {s : Value} {l : List UInt8} (hb : BytesAt w s l) (hl : l.length ≤ 1099511627776) :
    CallP Tryz.prog 77 #[.int .u16 c, s] w (fun r w' => Upd noB w w' ∧ SayRes w' w.heap.size r (sayG c l)) := by
  rcases in9 hk with rfl | rfl | rfl | rfl | rfl | rfl
  · rw [sayG_of sayF_5]; exact ref09GetSay5 hb hl
  · rw [sayG_of sayF_6]; exact ref09GetSay6 hb hl
  · rw [sayG_of sayF_7]; exact ref09GetSay7 hb hl
  · rw [sayG_of sayF_8]; exact ref09GetSay8 hb hl
  · rw [sayG_of sayF_9]; exact ref09GetSay9 hb hl
  · rw [sayG_of sayF_10]; exact ref09GetSay10 hb hl
theorem fileGetAsk_any {c : Int} (h0 : 0 ≤ c) (hk : known9 c = true) {s : Value} {l : List UInt8} (hb : BytesAt w s l) (hl : l.length ≤ 1099511627776) :
    CallP Tryz.prog 85 #[.int .u16 c, s] w (fun r w' => Upd noB w w' ∧ AskRes w' w.heap.size r (askG c l)) := by
  rcases in9 hk with rfl | rfl | rfl | rfl | rfl | rfl
  · rw [askG_of askF_5]; exact fileGetAsk5 hb hl
  · rw [askG_of askF_6]; exact fileGetAsk6 hb hl
  · rw [askG_of askF_7]; exact fileGetAsk7 hb hl
  · rw [askG_of askF_8]; exact fileGetAsk8 hb hl
  · rw [askG_of askF_9]; exact fileGetAsk9 hb hl
  · rw [askG_of askF_10]; exact fileGetAsk10 hb hl
theorem fileGetSay_any {c : Int} (h0 : 0 ≤ c) (hk : known9 c = true) {s : Value} {l : List UInt8} (hb : BytesAt w s l) (hl : l.length ≤ 1099511627776) :
    CallP Tryz.prog 87 #[.int .u16 c, s] w (fun r w' => Upd noB w w' ∧ SayRes w' w.heap.size r (sayG c l)) := by
  rcases in9 hk with rfl | rfl | rfl | rfl | rfl | rfl
  · rw [sayG_of sayF_5]; exact fileGetSay5 hb hl
  · rw [sayG_of sayF_6]; exact fileGetSay6 hb hl
  · rw [sayG_of sayF_7]; exact fileGetSay7 hb hl
  · rw [sayG_of sayF_8]; exact fileGetSay8 hb hl
  · rw [sayG_of sayF_9]; exact fileGetSay9 hb hl
  · rw [sayG_of sayF_10]; exact fileGetSay10 hb hl
theorem ref10GetAsk_any {c : Int} (h0 : 0 ≤ c) (hk : known10 c = true) {s : Value} {l : List UInt8} (hb : BytesAt w s l) (hl : l.length ≤ 1099511627776) :
    CallP Tryz.prog 75 #[.int .u16 c, s] w (fun r w' => Upd noB w w' ∧ AskRes w' w.heap.size r (askG c l)) := by
  rcases in10 hk with rfl | rfl | rfl | rfl | rfl
  · rw [askG_of askF_12]; exact ref10GetAsk12 hb hl
  · rw [askG_of askF_14]; exact ref10GetAsk14 hb hl
  · rw [askG_of askF_16]; exact ref10GetAsk16 hb hl
  · rw [askG_of askF_17]; exact ref10GetAsk17 hb hl
  · rw [askG_of askF_18]; exact ref10GetAsk18 hb hl
theorem ref10GetSay_any {c : Int} (h0 : 0 ≤ c) (hk : known10 c = true) (hc : c ≠ 12) {s : Value} {l : List UInt8} (hb : BytesAt w s l) (hl : l.length ≤ 1099511627776) :
    CallP Tryz.prog 78 #[.int .u16 c, s] w (fun r w' => Upd noB w w' ∧ SayRes w' w.heap.size r (sayG c l)) := by
  rcases in10 hk with rfl | rfl | rfl | rfl | rfl
  · exact absurd rfl hc
  · rw [sayG_of sayF_14]; exact ref10GetSay14 hb hl
  · rw [sayG_of sayF_16]; exact ref10GetSay16 hb hl
  · rw [sayG_of sayF_17]; exact ref10GetSay17 hb hl
  · rw [sayG_of sayF_18]; exact ref10GetSay18 hb hl
theorem infoGetAsk_any {c : Int} (h0 : 0 ≤ c) (hk : known10 c = true) {s : Value} {l : List UInt8} (hb : BytesAt w s l) (hl : l.length ≤ 1099511627776) :
    CallP Tryz.prog 89 #[.int .u16 c, s] w (fun r w' => Upd noB w w' ∧ AskRes w' w.heap.size r (askG c l)) := by
  rcases in10 hk with rfl | rfl | rfl | rfl | rfl
  · rw [askG_of askF_12]; exact infoGetAsk12 hb hl
  · rw [askG_of askF_14]; exact infoGetAsk14 hb hl
  · rw [askG_of askF_16]; exact infoGetAsk16 hb hl
  · rw [askG_of askF_17]; exact infoGetAsk17 hb hl
  · rw [askG_of askF_18]; exact infoGetAsk18 hb hl
theorem infoGetSay_any {c : Int} (h0 : 0 ≤ c) (hk : known10 c = true) (hc : c ≠ 12) {s : Value} {l : List UInt8} (hb : BytesAt w s l) (hl : l.length ≤ 1099511627776) :
    CallP Tryz.prog 91 #[.int .u16 c, s] w (fun r w' => Upd noB w w' ∧ SayRes w' w.heap.size r (sayG c l)) := by
  rcases in10 hk with rfl | rfl | rfl | rfl | rfl
  · exact absurd rfl hc
  · rw [sayG_of sayF_14]; exact infoGetSay14 hb hl
  · rw [sayG_of sayF_16]; exact infoGetSay16 hb hl
  · rw [sayG_of sayF_17]; exact infoGetSay17 hb hl
  · rw [sayG_of sayF_18]; exact infoGetSay18 hb hl
end Go.Proofs.YtinfdomlpbikaaaGreatDoor
namespace Go.Proofs.YtinfdomlpbikaaaGreatDoor
open Go.Eng
set_option linter.unusedSimpArgs false
set_option linter.unusedVariables false
set_option maxRecDepth 100000
variable {w w0 : World}
def bareM (h : HeadV) : MsgV := ⟨h, zeroA, zeroS⟩
set_option maxHeartbeats 4000000 in
theorem put_bare (h : HeadV) (ok : h.ok) (hm : mayL h = true) (hc : h.command = 13) (hn : h.next = 0) (hr : hasF h.flags 1 → h.status ≠ 0) (w : World) :
    CallP Tryz.prog 12 #[.agg (bareM h).cells] w (fun r w' => ∃ v, r = .tuple #[v, .int .i64 0] ∧ Upd noB w w' ∧ OwnB w' w.heap.size v (headB h ++ [0, 0, 0, 0])) := by
  refine call_den (args := [_]) Tryz.func12 rfl rfl (by simp [Tryz.ntmps12]) ?_
  simp [go_sem, bareM]
  refine gen_call ?_
  intro W hW
  have hu : Upd noB w W := by rw [hW]; exact (by repeat (first | exact Upd.refl _ _ | refine Upd.alloc ?_ _ | refine Upd.drew ?_ | refine Upd.drewN ?_ _ | refine Upd.setB ?_ _ _ (fun h => absurd h (by omega))))
  have hb : MsgAt W (w.heap.size + 1) (bareM h) := by unfold MsgAt; rw [hW, heap_alloc, if_pos (by simp)]; rfl
  clear hW
  refine CallP.mono (headPut_any h ok W) ?_
  rintro r W2 ⟨u2, hres⟩
  rw [if_pos hm] at hres
  obtain ⟨v, rfl, own⟩ := hres
  have hb2 : MsgAt W2 (w.heap.size + 1) (bareM h) := u2.get hb (by simp [noB])
  have hf := ok.flags
  have fin : ∀ (k : Value → World → Prop) (W4 : World), Upd noB W2 W4 → MsgAt W4 (w.heap.size + 1) (bareM h) → (∀ v2 W5, Upd noB W4 W5 → OwnB W5 W4.heap.size v2 [0, 0, 0, 0] → k (.tuple #[v2, .int .i64 0]) W5) → CallP Tryz.prog 38 #[.pointer (some ⟨w.heap.size + 1, 0, none⟩)] W4 k := by
    intro k W4 u4 hb4 hk
    by_cases hrep : hasF h.flags 1
    · refine CallP.mono (body_fault (m := bareM h) hb4 hf hc hrep (hr hrep)) ?_
      rintro r W5 ⟨v2, rfl, u5, own5⟩
      exact hk v2 W5 u5 own5
    · refine CallP.mono (body_echo (m := bareM h) hb4 hf hc hrep rfl) ?_
      rintro r W5 ⟨v2, rfl, u5, own5⟩
      exact hk v2 W5 u5 own5
  simp [go_sem]
  refine CallP.mono (msgReply_any hb2 hf) ?_
  rintro r W3 ⟨rfl, rfl⟩
  have hq : (bareM h).head.flags = h.flags := rfl
  rw [hq]
  have hb2' := hb2
  unfold MsgAt at hb2'
  by_cases hrep : hasF h.flags 1
  · have hst : h.status ≠ 0 := hr hrep
    simp [go_sem, hrep, hb2']
    refine CallP.mono (none_zero _) ?_
    rintro r W4 ⟨rfl, u4⟩
    have hb4 : MsgAt W4 (w.heap.size + 1) (bareM h) := u4.get hb2 (by simp [noB])
    simp [go_sem]
    refine CallP.mono (msgReply_any hb4 hf) ?_
    rintro r W5 ⟨rfl, hW5⟩
    rw [hW5]; clear hW5; clear W5
    rw [hq]
    simp [go_sem, hrep]
    refine CallP.mono (msgFault_any hb4 hf) ?_
    rintro r W5 ⟨rfl, hW5⟩
    rw [hW5]; clear hW5; clear W5
    rw [hq]
    have hq2 : (bareM h).head.status = h.status := rfl
    rw [hq2]
    have hb4' := hb4
    unfold MsgAt at hb4'
    simp [go_sem, hrep, hst, hb4']
    refine CallP.mono (silent_zero _) ?_
    rintro r W6 ⟨rfl, u6⟩
    have hb6 : MsgAt W6 (w.heap.size + 1) (bareM h) := u6.get hb4 (by simp [noB])
    have u26 : Upd noB W3 W6 := u4.trans u6
    simp [go_sem]
    refine fin _ W6 u26 hb6 ?_
    intro v2 W7 u7 own7
    have own' := own_keep0 (own_keep0 own u26) u7
    have u27 := u26.trans u7
    have hb7 : MsgAt W7 (w.heap.size + 1) (bareM h) := u7.get hb6 (by simp [noB])
    obtain ⟨v3, W8, hrun, own8, hg8⟩ := OwnB.append (l := headB h) own' own7.at 31 (by rw [headB_len]; decide) ((u2.trans u27).size)
    have u8 : Upd noB W W8 := upd_append own' (u2.trans u27) (Nat.le_refl _) hg8
    have hb8 : W8.heap[w.heap.size + 1]? = some (.cells (bareM h).cells 66 (0, 0)) := u8.get hb (by simp [noB])
    have hq3 : (bareM h).head.next = h.next := rfl
    simp [go_sem, K_append_ok _ _ _ _ hrun]
    refine den_loop (fun _ ρ W' => ρ 4 = .pointer (some ⟨w.heap.size + 1, 0, none⟩) ∧ ρ 7 = v3 ∧ W' = W8) 0 ⟨by simp [go_sem], by simp [go_sem], rfl⟩ ?_
    rintro m ρ W' ⟨g4, g7, rfl⟩
    simp [go_sem, g4, g7, hb8, hq3, hn]
    exact ⟨hu.trans u8, own_base own8 hu.size⟩
  · simp [go_sem, hrep, hb2']
    refine CallP.mono (msgReply_any hb2 hf) ?_
    rintro r W5 ⟨rfl, hW5⟩
    rw [hW5]; clear hW5; clear W5
    rw [hq]
    simp [go_sem, hrep, hb2']
    refine CallP.mono (silent_zero _) ?_
    rintro r W6 ⟨rfl, u26⟩
    have hb6 : MsgAt W6 (w.heap.size + 1) (bareM h) := u26.get hb2 (by simp [noB])
    simp [go_sem]
    refine CallP.mono (msgFault_any hb6 hf) ?_
    rintro r W5 ⟨rfl, hW5⟩
    rw [hW5]; clear hW5; clear W5
    rw [hq]
    simp [go_sem, hrep]
    refine fin _ W6 u26 hb6 ?_
    intro v2 W7 u7 own7
    have own' := own_keep0 (own_keep0 own u26) u7
    have u27 := u26.trans u7
    have hb7 : MsgAt W7 (w.heap.size + 1) (bareM h) := u7.get hb6 (by simp [noB])
    obtain ⟨v3, W8, hrun, own8, hg8⟩ := OwnB.append (l := headB h) own' own7.at 31 (by rw [headB_len]; decide) ((u2.trans u27).size)
    have u8 : Upd noB W W8 := upd_append own' (u2.trans u27) (Nat.le_refl _) hg8
    have hb8 : W8.heap[w.heap.size + 1]? = some (.cells (bareM h).cells 66 (0, 0)) := u8.get hb (by simp [noB])
    have hq3 : (bareM h).head.next = h.next := rfl
    simp [go_sem, K_append_ok _ _ _ _ hrun]
    refine den_loop (fun _ ρ W' => ρ 4 = .pointer (some ⟨w.heap.size + 1, 0, none⟩) ∧ ρ 7 = v3 ∧ W' = W8) 0 ⟨by simp [go_sem], by simp [go_sem], rfl⟩ ?_
    rintro m ρ W' ⟨g4, g7, rfl⟩
    simp [go_sem, g4, g7, hb8, hq3, hn]
    exact ⟨hu.trans u8, own_base own8 hu.size⟩
end Go.Proofs.YtinfdomlpbikaaaGreatDoor
namespace Go.Proofs.YtinfdomlpbikaaaGreatDoor
open Go.Eng
set_option linter.unusedSimpArgs false
set_option linter.unusedVariables false
set_option maxRecDepth 100000
variable {w w0 : World}
/-- an askReader's block: its bytes, its place, its error, its Ask -/
structure RdV where
  b : SlV
  at_ : Int
  e : Int
  ask : AskV
def RdV.row (r : RdV) : List Value := [.slice r.b.p r.b.n r.b.cap, .int .i64 r.at_, .int .i64 r.e] ++ r.ask.row
def RdV.cells (r : RdV) : Array Value := r.row.toArray
theorem RdV.row_len (r : RdV) : r.row.length = 72 := by simp [RdV.row, AskV.row_len]
@[go_sem] theorem RdV.size (r : RdV) : r.cells.size = 72 := by show r.row.length = 72; exact r.row_len
@[go_sem] theorem rdq0 (r : RdV) : r.cells[0]? = some (.slice r.b.p r.b.n r.b.cap) := by rw [show r.cells = r.row.toArray from rfl, List.getElem?_toArray]; simp [RdV.row]
@[go_sem] theorem rdq1 (r : RdV) : r.cells[1]? = some (.int .i64 r.at_) := by rw [show r.cells = r.row.toArray from rfl, List.getElem?_toArray]; simp [RdV.row]
@[go_sem] theorem rdq2 (r : RdV) : r.cells[2]? = some (.int .i64 r.e) := by rw [show r.cells = r.row.toArray from rfl, List.getElem?_toArray]; simp [RdV.row]
@[go_sem] theorem rdg0 (r : RdV) (hp : 0 < r.cells.size) : r.cells[0] = .slice r.b.p r.b.n r.b.cap := Option.some.inj ((Array.getElem?_eq_getElem hp).symm.trans (rdq0 r))
@[go_sem] theorem rdg1 (r : RdV) (hp : 1 < r.cells.size) : r.cells[1] = .int .i64 r.at_ := Option.some.inj ((Array.getElem?_eq_getElem hp).symm.trans (rdq1 r))
@[go_sem] theorem rdg2 (r : RdV) (hp : 2 < r.cells.size) : r.cells[2] = .int .i64 r.e := Option.some.inj ((Array.getElem?_eq_getElem hp).symm.trans (rdq2 r))
@[go_sem] theorem rds1 (r : RdV) (z : Int) : r.cells.setIfInBounds 1 (.int .i64 z) = { r with at_ := z }.cells := by
  apply Array.toList_inj.1
  rw [Array.toList_setIfInBounds]
  show r.row.set 1 _ = _
  simp [RdV.cells, RdV.row]
@[go_sem] theorem rds2 (r : RdV) (z : Int) : r.cells.setIfInBounds 2 (.int .i64 z) = { r with e := z }.cells := by
  apply Array.toList_inj.1
  rw [Array.toList_setIfInBounds]
  show r.row.set 2 _ = _
  simp [RdV.cells, RdV.row]
@[go_sem high] theorem rd_cut (r : RdV) (t : TypeId) (f : Nat × Nat) : cutIn (some (.cells r.cells t f)) 3 69 = some r.ask.row := by
  have h := cut_part (r := r.row) (a := [.slice r.b.p r.b.n r.b.cap, .int .i64 r.at_, .int .i64 r.e]) (b := r.ask.row) (c := []) t f (by simp [RdV.row])
  rw [AskV.row_len] at h
  exact h
@[go_sem] theorem rds0 (r : RdV) (p : Option Addr) (n c : Nat) : r.cells.setIfInBounds 0 (.slice p n c) = { r with b := ⟨p, n, c⟩ }.cells := by
  apply Array.toList_inj.1
  rw [Array.toList_setIfInBounds]
  show r.row.set 0 _ = _
  simp [RdV.cells, RdV.row]
def zeroR : RdV := ⟨⟨none, 0, 0⟩, 0, 0, zeroA⟩
@[go_sem high] theorem zc_rd : Tryz.zeroCells161 = zeroR.cells := (rfl)
def RdAt (W : World) (b : Nat) (r : RdV) : Prop := W.heap[b]? = some (.cells r.cells 161 (0, 0))
/-- a reader's number -/
theorem rdN_any {b : Nat} {r : RdV} {l : List UInt8} (hr : RdAt w b r) (hb : BytesAt w (.slice r.b.p r.b.n r.b.cap) l) (hl : l.length ≤ 9223372036854775000) (a k : Nat) (ha : r.at_ = (a : Int)) (he : r.e = 0) (hk : sizeOk k) (h : a + k ≤ l.length) :
    CallP Tryz.prog 151 #[.pointer (some ⟨b, 0, none⟩), .int .i64 k] w (fun v w' => v = .int .u64 (numAt l a k) ∧ Upd (fun x => x = b) w w' ∧ RdAt w' b { r with at_ := (a : Int) + k }) := by
  have hr' := hr
  unfold RdAt at hr'
  have hn : r.b.n = l.length := by
    obtain ⟨p, cap, e, _⟩ := hb.len
    injection e
  have hw1 : IntKind.i64.wrap ((l.length : Int) - a) = (l.length : Int) - a := wrap64_id (by omega) (by omega)
  have hw2 : IntKind.i64.wrap ((a : Int) + k) = (a : Int) + k := wrap64_id (by omega) (by omega)
  have n1 : ¬ (l.length : Int) - a < k := by omega
  refine call_den (args := [_, _]) Tryz.func151 rfl rfl (by simp [Tryz.ntmps151]) ?_
  simp [go_sem, hr', he]
  refine draw_script [.pure 0, .pure 5, .pure 10, .still [1, 2, 3, 4, 6, 7, 8], .one 9, .one 11] (by kernel_rfl) (by kernel_rfl) (by kernel_rfl) ?_
  simp [go_sem, hr', ha, hn, hw1, n1]
  refine draw_script [.pure 0, .pure 4, .pure 8, .still [1, 2, 3, 5, 6, 7], .one 9, .pure 10, .still [11, 12, 13], .pure 14] (by kernel_rfl) (by kernel_rfl) (by kernel_rfl) ?_
  simp [go_sem, hr', ha]
  have ud : Upd noB w w.drew.drew := (Upd.refl _ _).drew.drew
  refine CallP.mono (endsGet_any (hb.keep0 ud) (by omega) a k h hk) ?_
  rintro v W ⟨rfl, hW⟩
  have hu : Upd (fun x => x = b) w W := by rw [hW]; exact (Upd.refl _ _).drew.drew
  have hrW : W.heap[b]? = some (.cells r.cells 161 (0, 0)) := by rw [hW]; exact hr'
  clear hW
  simp [go_sem, hrW, ha, hw2]
  refine ⟨rfl, hu.setB _ _ (fun _ => rfl), ?_⟩
  unfold RdAt
  rw [heap_setB, if_pos rfl, hrW]
  simp only [Option.map_some, he]
theorem rdZero_any {b : Nat} {r : RdV} {l : List UInt8} (hr : RdAt w b r) (hb : BytesAt w (.slice r.b.p r.b.n r.b.cap) l) (hl : l.length ≤ 9223372036854775000) (a k : Nat) (ha : r.at_ = (a : Int)) (he : r.e = 0) (hk : sizeOk k) (h : a + k ≤ l.length) (hz : numAt l a k = 0) :
    CallP Tryz.prog 154 #[.pointer (some ⟨b, 0, none⟩), .int .i64 k] w (fun v w' => Upd (fun x => x = b) w w' ∧ RdAt w' b { r with at_ := (a : Int) + k }) := by
  refine call_den (args := [_, _]) Tryz.func154 rfl rfl (by simp [Tryz.ntmps154]) ?_
  simp [go_sem]
  refine CallP.mono (rdN_any hr hb hl a k ha he hk h) ?_
  rintro v W ⟨rfl, hu, hrW⟩
  simp [go_sem, hz]
  exact ⟨hu, hrW⟩
theorem rdEnd_any {b : Nat} {r : RdV} (hr : RdAt w b r) (he : r.e = 0) :
    CallP Tryz.prog 155 #[.pointer (some ⟨b, 0, none⟩)] w (fun v w' => v = .int .i64 (if r.at_ = r.b.n then 0 else 5) ∧ Upd (fun x => x = b) w w' ∧ RdAt w' b (if r.at_ = r.b.n then r else { r with e := 5 })) := by
  have hr' := hr
  unfold RdAt at hr'
  refine call_den (args := [_]) Tryz.func155 rfl rfl (by simp [Tryz.ntmps155]) ?_
  simp [go_sem]
  refine draw_script [.pure 0, .one 1, .pure 2, .one 3, .one 4, .pure 5, .pure 6, .pure 10, .still [7, 8, 9, 11, 12, 13, 14], .one 15, .one 16] (by kernel_rfl) (by kernel_rfl) (by kernel_rfl) ?_
  by_cases h : r.at_ = r.b.n
  · simp [go_sem, hr', he, h]
    exact ⟨(Upd.refl _ _).drew, hr'⟩
  · simp [go_sem, hr', he, h]
    refine ⟨(Upd.refl _ _).drew.setB _ _ (fun _ => rfl), ?_⟩
    unfold RdAt
    rw [heap_setB, if_pos rfl]
    have hd : w.drew.heap[b]? = some (.cells r.cells 161 (0, 0)) := hr'
    rw [hd]
    rfl
theorem rdEnd_ok {b : Nat} {r : RdV} (hr : RdAt w b r) (he : r.e = 0) (h : r.at_ = r.b.n) : CallP Tryz.prog 155 #[.pointer (some ⟨b, 0, none⟩)] w (fun v w' => v = .int .i64 0 ∧ Upd (fun x => x = b) w w' ∧ RdAt w' b r) := by
  refine CallP.mono (rdEnd_any hr he) ?_
  rintro v w' ⟨h1, h2, h3⟩
  rw [if_pos h] at h1 h3
  exact ⟨h1, h2, h3⟩
theorem rdEnd_bad {b : Nat} {r : RdV} (hr : RdAt w b r) (he : r.e = 0) (h : ¬ r.at_ = r.b.n) : CallP Tryz.prog 155 #[.pointer (some ⟨b, 0, none⟩)] w (fun v w' => v = .int .i64 5 ∧ Upd (fun x => x = b) w w') := by
  refine CallP.mono (rdEnd_any hr he) ?_
  rintro v w' ⟨h1, h2, h3⟩
  rw [if_neg h] at h1
  exact ⟨h1, h2⟩
set_option maxHeartbeats 2000000 in
theorem getAsk_echo {s : Value} {l : List UInt8} (hb : BytesAt w s l) (hl : 4 ≤ l.length) (hl2 : l.length ≤ 9223372036854775000) (hz : numAt l 0 4 = 0) :
    CallP Tryz.prog 93 #[.int .u16 13, s] w (fun r w' => r = .tuple #[.agg zeroA.cells, .int .i64 (if l.length = 4 then 0 else 5)] ∧ Upd noB w w') := by
  obtain ⟨p, cap, rfl, hcap⟩ := hb.len
  refine call_den (args := [_, _]) Tryz.func93 rfl rfl (by simp [Tryz.ntmps93]) ?_
  simp [go_sem]
  refine CallP.mono (talkKnown_echo _) ?_
  rintro r W ⟨rfl, hW⟩
  have hu : Upd noB w W := by rw [hW]; exact (by repeat (first | exact Upd.refl _ _ | refine Upd.alloc ?_ _ | refine Upd.drew ?_ | refine Upd.drewN ?_ _ | refine Upd.setB ?_ _ _ (fun h => absurd h (by omega))))
  have h0 : W.heap[w.heap.size]? = some (.cells zeroA.cells 34 (0, 0)) := by rw [hW, heap_alloc, if_pos rfl]
  clear hW
  simp [go_sem]
  refine gen_call ?_
  intro W2 hW2
  obtain ⟨r, hr⟩ : ∃ r : RdV, r = ⟨⟨p, l.length, cap⟩, 0, 0, zeroA⟩ := ⟨_, rfl⟩
  have hu2 : Upd noB w W2 := by rw [hW2]; exact hu.alloc _
  have hr2 : RdAt W2 W.heap.size r := by unfold RdAt; rw [hW2, heap_alloc, if_pos rfl, hr]; rfl
  have hne : W.heap.size ≠ w.heap.size := fun e => by have := (old_ne h0).1; omega
  have h02 : W2.heap[w.heap.size]? = some (.cells zeroA.cells 34 (0, 0)) := by rw [hW2, heap_alloc, if_neg (fun e => hne e.symm)]; exact h0
  have hbn : w.heap.size ≤ W.heap.size := hu.size
  clear hW2
  generalize W.heap.size = b at *
  refine CallP.mono (rdZero_any (l := l) hr2 (by rw [hr]; exact hb.keep0 hu2) hl2 0 4 (by rw [hr]; rfl) (by rw [hr]) (by decide) (by omega) hz) ?_
  rintro v W3 ⟨u3, hr3⟩
  have hu3 : Upd noB w W3 := hu2.trans' u3 (fun i hi hlt => by omega)
  have h03 := u3.get h02 (fun e => hne e.symm)
  simp [go_sem]
  have hbl : r.b.n = l.length := by rw [hr]
  by_cases h4 : l.length = 4
  · refine CallP.mono (rdEnd_ok hr3 (by rw [hr]) (by show (0 : Int) + 4 = r.b.n; rw [hbl, h4]; rfl)) ?_
    rintro v W4 ⟨rfl, u4, hr4⟩
    have hu4 : Upd noB w W4 := hu3.trans' u4 (fun i hi hlt => by omega)
    have h04 := u4.get h03 (fun e => hne e.symm)
    unfold RdAt at hr4
    have hra : r.ask = zeroA := by rw [hr]
    simp [go_sem, hr4, h04, h4, hra]
    exact hu4.setB _ _ (fun h => absurd h (by omega))
  · refine CallP.mono (rdEnd_bad hr3 (by rw [hr]) (by show ¬ (0 : Int) + 4 = r.b.n; rw [hbl]; omega)) ?_
    rintro v W4 ⟨rfl, u4⟩
    have hu4 : Upd noB w W4 := hu3.trans' u4 (fun i hi hlt => by omega)
    have h04 := u4.get h03 (fun e => hne e.symm)
    simp [go_sem, h04, h4]
    exact hu4.setB _ _ (fun h => absurd h (by omega))
def CodecAt (W : World) (bx : Nat) : Prop := W.heap[bx]? = some (.cells #[.func (.func 92) #[] #[], .func (.func 93) #[] #[], .func (.func 94) #[] #[], .func (.func 95) #[] #[]] 92 (0, 0))
def RdS (bx b : Nat) (m : MsgV) (W : World) : Prop := CodecAt W bx ∧ MsgAt W b m
def AnyS (W : World) : Prop := True
set_option maxHeartbeats 4000000 in
theorem read_echo {b : Nat} {m : MsgV} {s : Value} {l : List UInt8} (hm : MsgAt w b m) (hf : 0 ≤ m.head.flags ∧ m.head.flags < 4294967296) (hc : m.head.command = 13) (hrep : ¬ hasF m.head.flags 1) (hb : BytesAt w s l) (hl : 4 ≤ l.length) (hl2 : l.length ≤ 9223372036854775000) (hz : numAt l 0 4 = 0) :
    CallP Tryz.prog 44 #[.pointer (some ⟨b, 0, none⟩), s] w (fun r w' => r = .int .i64 (if l.length = 4 then 0 else 5) ∧ Upd (fun x => x = b) w w' ∧ MsgAt w' b { m with ask := zeroA }) := by
  obtain ⟨p, cap, rfl, hcap⟩ := hb.len
  have hm' := hm
  unfold MsgAt at hm'
  refine call_den (args := [_, _]) Tryz.func44 rfl rfl (by simp [Tryz.ntmps44]) ?_
  simp [go_sem, hm', hc]
  refine CallP.mono (by_talk _) ?_
  rintro r W ⟨rfl, u1⟩
  simp [go_sem]
  refine gen_call ?_
  intro W1 hW1
  have hu : Upd noB w W1 := by rw [hW1]; exact (u1.alloc _).setB _ _ (fun h => absurd h (by have := u1.size; omega))
  have hx : W1.heap[W.heap.size]? = some (.cells #[.func (.func 92) #[] #[], .func (.func 93) #[] #[], .func (.func 94) #[] #[], .func (.func 95) #[] #[]] 92 (0, 0)) := by
    rw [hW1, heap_setB, if_pos rfl, heap_alloc, if_pos rfl]; rfl
  obtain ⟨bx, hbx⟩ : ∃ bx, bx = W.heap.size := ⟨_, rfl⟩
  have hbw : w.heap.size ≤ bx := by rw [hbx]; exact u1.size
  rw [← hbx] at hx ⊢
  have hm1 : MsgAt W1 b m := hu.get hm (by simp [noB])
  clear hW1 u1 hbx
  refine CallP.mono (msgFault_any hm1 hf) ?_
  rintro r W2 ⟨rfl, hW2⟩
  rw [hW2]; clear hW2; clear W2
  simp [go_sem, hrep]
  refine CallP.mono (msgReply_any hm1 hf) ?_
  rintro r W2 ⟨rfl, hW2⟩
  rw [hW2]; clear hW2; clear W2
  simp [go_sem, hrep]
  refine CallP.mono (msgReply_any hm1 hf) ?_
  rintro r W2 ⟨rfl, hW2⟩
  rw [hW2]; clear hW2; clear W2
  simp [go_sem, hrep]
  have hS0 : RdS bx b m W1.drew := ⟨hx, hm1⟩
  have hud : Upd noB w W1.drew := hu.drew
  refine draw_script [.pure 0, .pure 1, .pure 3, .pure 8, .held [2, 4, 5, 6, 7] 9, .pure 10, .held [11, 12, 13, 14] 15, .pure 16] (by kernel_rfl) (by kernel_rfl) (by kernel_rfl) ?_
  simp [go_sem]
  haveI : Nonempty { W : World // RdS bx b m W } := ⟨⟨W1.drew, hS0⟩⟩
  have q1 : ∀ i : { W : World // RdS bx b m W }, i.1.heap[bx]? = some (.cells #[.func (.func 92) #[] #[], .func (.func 93) #[] #[], .func (.func 94) #[] #[], .func (.func 95) #[] #[]] 92 (0, 0)) := fun i => i.2.1
  have q2 : ∀ i : { W : World // RdS bx b m W }, i.1.heap[b]? = some (.cells m.cells 66 (0, 0)) := fun i => i.2.2
  refine opsPh_held _ _ (RdS bx b m) hS0 ?_
  simp [go_sem, q1, q2, hc]
  refine CallP.mono (getAsk_echo (hb.keep0 hud) hl hl2 hz) ?_
  rintro r W3 ⟨rfl, u3⟩
  have hm3 : MsgAt W3 b m := u3.get hm1 (by simp [noB])
  have hu3 := hud.trans u3
  refine ⟨⟨u3.get hx (by simp [noB]), hm3⟩, ?_⟩
  simp [go_sem]
  haveI : Nonempty { W : World // AnyS W } := ⟨⟨W3, trivial⟩⟩
  refine opsPh_held _ _ AnyS trivial ?_
  have hm3' := hm3
  unfold MsgAt at hm3'
  simp [go_sem, hm3']
  refine ⟨trivial, ?_⟩
  have hput : MsgAt (W3.setB b (.cells { m with ask := zeroA }.cells 66)) b { m with ask := zeroA } := by
    unfold MsgAt
    rw [heap_setB, if_pos rfl, hm3']
    rfl
  have hus : Upd (fun x => x = b) w (W3.setB b (.cells { m with ask := zeroA }.cells 66)) := (hu3.mono (fun _ _ h => h.elim)).setB _ _ (fun _ => rfl)
  exact ⟨hus, hput⟩
end Go.Proofs.YtinfdomlpbikaaaGreatDoor
namespace Go.Proofs.YtinfdomlpbikaaaGreatDoor
open Go.Eng
set_option linter.unusedSimpArgs false
set_option linter.unusedVariables false
set_option maxRecDepth 100000
variable {w w0 : World}
theorem words_nil (w : World) : CallP Tryz.prog 59 #[.slice none 0 0, .slice none 0 0] w (fun r w' => r = .bool true ∧ w' = w) := by
  refine call_den (args := [_, _]) Tryz.func59 rfl rfl (by simp [Tryz.ntmps59]) ?_
  simp [go_sem]
  refine den_loop (fun _ ρ w' => ρ 0 = .slice none 0 0 ∧ ρ 5 = .int .i64 0 ∧ w' = w) 0 ⟨by simp [go_sem], by simp [go_sem], rfl⟩ ?_
  rintro m ρ w' ⟨g0, g5, rfl⟩
  simp [go_sem, g0, g5]
theorem same_nil (w : World) : CallP Tryz.prog 14 #[.slice none 0 0, .slice none 0 0] w (fun r w' => r = .bool true ∧ w' = w) := by
  refine call_den (args := [_, _]) Tryz.func14 rfl rfl (by simp [Tryz.ntmps14]) ?_
  simp [go_sem]
  refine den_loop (fun _ ρ w' => ρ 0 = .slice none 0 0 ∧ ρ 5 = .int .i64 0 ∧ w' = w) 0 ⟨by simp [go_sem], by simp [go_sem], rfl⟩ ?_
  rintro m ρ w' ⟨g0, g5, rfl⟩
  simp [go_sem, g0, g5]
theorem locks_nil (w : World) : CallP Tryz.prog 60 #[.slice none 0 0, .slice none 0 0] w (fun r w' => r = .bool true ∧ w' = w) := by
  refine call_den (args := [_, _]) Tryz.func60 rfl rfl (by simp [Tryz.ntmps60]) ?_
  simp [go_sem]
  refine den_loop (fun _ ρ w' => ρ 0 = .slice none 0 0 ∧ ρ 5 = .int .i64 0 ∧ w' = w) 0 ⟨by simp [go_sem], by simp [go_sem], rfl⟩ ?_
  rintro m ρ w' ⟨g0, g5, rfl⟩
  simp [go_sem, g0, g5]
theorem entries_nil (w : World) : CallP Tryz.prog 61 #[.slice none 0 0, .slice none 0 0] w (fun r w' => r = .bool true ∧ w' = w) := by
  refine call_den (args := [_, _]) Tryz.func61 rfl rfl (by simp [Tryz.ntmps61]) ?_
  simp [go_sem]
  refine den_loop (fun _ ρ w' => ρ 0 = .slice none 0 0 ∧ ρ 5 = .int .i64 0 ∧ w' = w) 0 ⟨by simp [go_sem], by simp [go_sem], rfl⟩ ?_
  rintro m ρ w' ⟨g0, g5, rfl⟩
  simp [go_sem, g0, g5]
set_option maxHeartbeats 4000000 in
theorem asks_zero (w : World) : CallP Tryz.prog 40 #[.agg zeroA.cells, .agg zeroA.cells] w (fun r w' => r = .bool true ∧ Upd noB w w') := by
  refine call_den (args := [_, _]) Tryz.func40 rfl rfl (by simp [Tryz.ntmps40]) ?_
  simp [go_sem]
  refine CallP.mono (words_nil _) ?_
  rintro r W ⟨rfl, hW⟩
  have hu : Upd noB w W := by rw [hW]; exact (by repeat (first | exact Upd.refl _ _ | refine Upd.alloc ?_ _ | refine Upd.drew ?_ | refine Upd.drewN ?_ _ | refine Upd.setB ?_ _ _ (fun h => absurd h (by omega))))
  have hb0 : W.heap[w.heap.size]? = some (.cells zeroA.cells 34 (0, 0)) := by rw [hW, heap_alloc, if_neg (by simp), heap_alloc, if_pos rfl]
  have hb1 : W.heap[w.heap.size + 1]? = some (.cells zeroA.cells 34 (0, 0)) := by rw [hW, heap_alloc, if_pos (by simp)]
  clear hW
  simp [go_sem, hb0, hb1]
  refine CallP.mono (same_nil _) ?_
  rintro r W2 ⟨rfl, hW2⟩
  rw [hW2]; clear hW2; clear W2
  simp [go_sem, hb0, hb1]
  refine CallP.mono (locks_nil _) ?_
  rintro r W2 ⟨rfl, hW2⟩
  rw [hW2]; clear hW2; clear W2
  simp [go_sem, hb0, hb1]
  exact hu
set_option maxHeartbeats 4000000 in
theorem says_zero (w : World) : CallP Tryz.prog 41 #[.agg zeroS.cells, .agg zeroS.cells] w (fun r w' => r = .bool true ∧ Upd noB w w') := by
  refine call_den (args := [_, _]) Tryz.func41 rfl rfl (by simp [Tryz.ntmps41]) ?_
  simp [go_sem]
  refine CallP.mono (same_nil _) ?_
  rintro r W ⟨rfl, hW⟩
  have hu : Upd noB w W := by rw [hW]; exact (by repeat (first | exact Upd.refl _ _ | refine Upd.alloc ?_ _ | refine Upd.drew ?_ | refine Upd.drewN ?_ _ | refine Upd.setB ?_ _ _ (fun h => absurd h (by omega))))
  have hb0 : W.heap[w.heap.size]? = some (.cells zeroS.cells 39 (0, 0)) := by rw [hW, heap_alloc, if_neg (by simp), heap_alloc, if_pos rfl]
  have hb1 : W.heap[w.heap.size + 1]? = some (.cells zeroS.cells 39 (0, 0)) := by rw [hW, heap_alloc, if_pos (by simp)]
  clear hW
  simp [go_sem, hb0, hb1]
  refine CallP.mono (entries_nil _) ?_
  rintro r W2 ⟨rfl, hW2⟩
  rw [hW2]; clear hW2; clear W2
  simp [go_sem, hb0, hb1]
  exact hu
theorem eqH_self (h : HeadV) : eqH h h = true := (eqH_iff h h).2 rfl
set_option maxHeartbeats 4000000 in
theorem same_bare (h : HeadV) (w : World) : CallP Tryz.prog 15 #[.agg (bareM h).cells, .agg (bareM h).cells] w (fun r w' => r = .bool true ∧ Upd noB w w') := by
  refine call_den (args := [_, _]) Tryz.func15 rfl rfl (by simp [Tryz.ntmps15]) ?_
  simp [go_sem, eqH_self]
  refine CallP.mono (asks_zero _) ?_
  rintro r W2 ⟨rfl, u2⟩
  have hb1 : W2.heap[w.heap.size + 1]? = some (.cells (bareM h).cells 41 (0, 0)) := u2.get (by rw [heap_alloc, if_pos (by simp)]) (by simp [noB])
  have hb0 : W2.heap[w.heap.size]? = some (.cells (bareM h).cells 41 (0, 0)) := u2.get (by rw [heap_alloc, if_neg (by simp), heap_alloc, if_pos rfl]) (by simp [noB])
  have hu : Upd noB w W2 := Upd.trans (((Upd.refl _ _).alloc _).alloc _) u2
  clear u2
  simp [go_sem, hb0, hb1]
  refine CallP.mono (says_zero _) ?_
  rintro r W3 ⟨rfl, u3⟩
  simp [go_sem]
  exact hu.trans u3
set_option maxHeartbeats 4000000 in
theorem get_bare {s : Value} {l : List UInt8} (hb : BytesAt w s l) (hl : 68 ≤ l.length) (hl2 : l.length ≤ 1000000) (h : HeadV) (ok : h.ok) (hg : getH l 0 = h) (hbad : badH l 0 = false) (hc : h.command = 13) (hrep : ¬ hasF h.flags 1) (hn : h.next = 0) (hz : numAt ((l.drop 64).take (l.length - 64)) 0 4 = 0) :
    CallP Tryz.prog 18 #[s] w (fun r w' => Upd noB w w' ∧ r = if l.length = 68 then .tuple #[.agg (bareM h).cells, .int .i64 0] else .tuple #[.agg zeroM.cells, .int .i64 5]) := by
  obtain ⟨p, cap, rfl, hcap⟩ := hb.len
  have hf := ok.flags
  refine call_den (args := [_]) Tryz.func18 rfl rfl (by simp [Tryz.ntmps18]) ?_
  simp [go_sem]
  refine CallP.mono (headGet_any (hb.keep0 (by repeat (first | exact Upd.refl _ _ | refine Upd.alloc ?_ _ | refine Upd.drew ?_ | refine Upd.drewN ?_ _ | refine Upd.setB ?_ _ _ (fun h => absurd h (by omega))))) (by omega) 0 (Nat.zero_le _)) ?_
  rintro r W ⟨u1, hres⟩
  unfold GetOut at hres
  rw [if_neg (by omega), if_neg (by rw [hbad]; simp), hg] at hres
  subst hres
  have hu : Upd noB w W := Upd.trans ((Upd.refl _ _).alloc _) u1
  have hz0 : W.heap[w.heap.size]? = some (.cells zeroM.cells 41 (0, 0)) := u1.get (by rw [heap_alloc, if_pos rfl]) (by simp [noB])
  clear u1
  obtain ⟨b, off, rfl⟩ : ∃ b off, p = some ⟨b, off, none⟩ := by
    rcases hb.1.2 with ⟨q, c, hv, h0⟩ | ⟨b, off, c, cc, te, f, hv, _⟩
    · omega
    · injection hv with h1
      exact ⟨b, off, h1⟩
  have h64 : (64 : Int) ≤ l.length := by omega
  have hc64 : ¬ cap = 64 := by omega
  simp [go_sem, h64, hc64]
  refine gen_call ?_
  intro W2 hW2
  have hu2 : Upd noB w W2 := by rw [hW2]; exact ((hu.alloc _).setB _ _ (fun h => absurd h (by have := hu.size; omega))).alloc _
  have hsz := (old_ne hz0).1
  have hz2 : W2.heap[w.heap.size]? = some (.cells zeroM.cells 41 (0, 0)) := by rw [hW2, heap_alloc, if_neg (by simp [size_setB]; omega), heap_setB, if_neg (by omega), heap_alloc, if_neg (by omega)]; exact hz0
  have hh2 : W2.heap[W.heap.size]? = some (.cells h.cells 28 (0, 0)) := by rw [hW2, heap_alloc, if_neg (by simp [size_setB]), heap_setB, if_pos rfl, heap_alloc, if_pos rfl]; rfl
  have hm2 : MsgAt W2 (W.heap.size + 1) (bareM h) := by unfold MsgAt; rw [hW2, heap_alloc, if_pos (by simp [size_setB])]; rfl
  have hbm : w.heap.size ≤ W.heap.size := hu.size
  obtain ⟨bh, hbh⟩ : ∃ bh, bh = W.heap.size := ⟨_, rfl⟩
  rw [← hbh] at hh2 hm2 hbm hsz ⊢
  clear hW2 hz0 hu hbh
  have key := (hb.keep0 hu2).cut (lo := 64) (hi := l.length) (m := cap) (by omega) (Nat.le_refl _) hcap
  have e1 : sliced (some ⟨b, off, none⟩) 64 l.length cap 1 = Value.slice (some ⟨b, off + 64, none⟩) (l.length - 64) (cap - 64) := by
    unfold sliced; simp [hc64, addr_add]
  rw [e1] at key
  have hl' : ((l.drop 64).take (l.length - 64)).length = l.length - 64 := by simp
  refine CallP.mono (read_echo (m := bareM h) hm2 hf hc hrep key (by rw [hl']; omega) (by rw [hl']; omega) hz) ?_
  rintro r W3 ⟨rfl, u3, hm3⟩
  have hu3 : Upd noB w W3 := hu2.trans' u3 (fun i hi hlt => by omega)
  have hz3 := u3.get hz2 (by omega)
  have hh3 := u3.get hh2 (by omega)
  replace hm3 : MsgAt W3 (bh + 1) (bareM h) := hm3
  rw [hl']
  clear hu2 hz2 hh2 hm2 u3
  by_cases h68 : l.length = 68
  · have h4 : l.length - 64 = 4 := by omega
    simp [go_sem, h4, hh3, hn]
    have hud : Upd noB w W3.drew := hu3.drew
    have hmd : W3.drew.heap[bh + 1]? = some (.cells (bareM h).cells 66 (0, 0)) := hm3
    have la : (Instr.loadAt 28 (.pointer (some ⟨bh + 1, 0, none⟩))).run Tryz.prog W3.drew = .ok (.agg h.cells) W3.drew :=
      loadAt_cut (W := W3.drew) (b := bh + 1) (o := 0) (Tryz.isAgg28 _) (Tryz.sizeOf28 _) (by rw [hmd]; exact msg_cut0 (bareM h) _ _)
    have lb : (Instr.loadAt 34 (.pointer (some ⟨bh + 1, 26, none⟩))).run Tryz.prog W3.drew = .ok (.agg zeroA.cells) W3.drew :=
      loadAt_cut (W := W3.drew) (b := bh + 1) (o := 26) (Tryz.isAgg34 _) (Tryz.sizeOf34 _) (by rw [hmd]; exact msg_cut1 (bareM h) _ _)
    have lc : (Instr.loadAt 39 (.pointer (some ⟨bh + 1, 95, none⟩))).run Tryz.prog W3.drew = .ok (.agg zeroS.cells) W3.drew :=
      loadAt_cut (W := W3.drew) (b := bh + 1) (o := 95) (Tryz.isAgg39 _) (Tryz.sizeOf39 _) (by rw [hmd]; exact msg_cut2 (bareM h) _ _)
    refine draw_script [.pure 0, .pure 4, .pure 8, .still [1, 2, 3, 5, 6, 7, 9, 10, 11], .one 12, .one 13, .pure 14] (by kernel_rfl) (by kernel_rfl) (by kernel_rfl) ?_
    simp [go_sem, Q_load_fix (W := fun _ : Unit => W3.drew) (fun _ => la), Q_load_fix (W := fun _ : Unit => W3.drew) (fun _ => lb), Q_load_fix (W := fun _ : Unit => W3.drew) (fun _ => lc), hz3, h68]
    exact ⟨hud.setB _ _ (fun h => absurd h (by omega)), rfl⟩
  · have h4 : ¬ l.length - 64 = 4 := by omega
    simp [go_sem, h4, hh3, hz3, hn, h68]
    exact hu3.setB _ _ (fun h => absurd h (by omega))
end Go.Proofs.YtinfdomlpbikaaaGreatDoor
namespace Go.Proofs.YtinfdomlpbikaaaGreatDoor
open Go.Eng
set_option linter.unusedSimpArgs false
set_option linter.unusedVariables false
set_option maxRecDepth 100000
variable {w w0 : World}
def h0 : HeadV := { charge := 0, status := 0, command := 13, credits := 0, flags := 0, next := 0, id := 1, async := 0, tree := 0, session := 0, sign := zeroH.sign }
def echo0 : List UInt8 := headB h0 ++ [0, 0, 0, 0]
theorem h0_ok : h0.ok := by refine ⟨?_, ?_, ?_, ?_, ?_, ?_, ?_, ?_, ?_, ?_⟩ <;> decide
theorem echo0_len : echo0.length = 68 := by simp [echo0, headB_len]
theorem h0_may : mayL h0 = true := by decide
theorem h0_rep : ¬ hasF h0.flags 1 := by decide
theorem echo0_head : getH echo0 0 = h0 := by kernel_rfl
theorem echo0_bad : badH echo0 0 = false := by kernel_rfl
theorem echo1_head : getH (echo0 ++ [0]) 0 = h0 := by kernel_rfl
theorem echo1_bad : badH (echo0 ++ [0]) 0 = false := by kernel_rfl
/-- a readable row's own cells, one by one -/
theorem row_cells_at {size n b off cap : Nat} {xs : List Value} (h : RowAt w size (.slice (some ⟨b, off, none⟩) n cap) n xs) : ∀ j u, xs[j]? = some u → w.cell? ((⟨b, off, none⟩ : Addr).add j) = some u := by
  intro j u hu
  rcases h.2 with ⟨p, c, _, rfl⟩ | ⟨b', off', c', cs, e, f, hv, hb, hle, htake⟩
  · have h0 := h.1
    simp at h0
    rw [h0] at hu
    cases hu
  · cases hv
    rw [cell?_add, hb, cellIn_some, ← Array.getElem?_toList, ← List.getElem?_drop]
    rw [← htake, List.getElem?_take] at hu
    split at hu
    · exact hu
    · cases hu
/-- append to a full slice, of something: new memory -/
theorem sl_append_full {P : Program} {t e : TypeId} {size bytes : Nat} (T : SlT P t e size bytes) {b off n m : Nat} {s : Value} {xs news : List Value} (dst : RowAt w size (.slice (some ⟨b, off, none⟩) n n) n xs)
    (src : RowAt w size s m news) (ty : TypeId) (h1 : ∀ u ∈ news, u.oneCell' = true) (hm : 0 < m) (hroom : (n + m) * bytes ≤ 140737488355328) (hmax : n + m ≤ maxLen) :
    ∃ v' w', (Builtin.append_ #[t, t] ty #[.slice (some ⟨b, off, none⟩) n n, s]).run P w = .ok v' w' ∧ w'.ownsRow w.heap.size e size v' (n + m) (xs ++ news) ∧ w.grownBy w' none := by
  obtain ⟨i, z, hi, hz, hs, hb, hzs⟩ := T.info
  rcases src.2 with ⟨p, cap, rfl, rfl⟩ | ⟨b2, off2, cap2, c, te, f, rfl, hbb, hle, htake⟩
  · omega
  · subst hs
    subst hb
    have hr := run_append_grow (P := P) w t ty e i z T.ht hi hz ⟨b, off, none⟩ n n xs dst.1 (row_cells_at dst) ⟨b2, off2, none⟩ m cap2 news src.1 (row_cells_at src) (by omega) (by simp only [maxLen] at hmax; omega) (growslice_fits (by omega) hroom)
    refine ⟨_, _, hr, ⟨by rw [List.length_append, dst.1, src.1, Nat.add_mul], .inr ⟨w.heap.size, _, _, rfl, Nat.le_refl _, Go.heap_alloc_new w.drew _, grownCap_ge _ _ _ _, grownCap_le_maxLen _ _ _ _ hmax, ?_, ?_⟩⟩, ⟨rfl, rfl, rfl, by simp, fun k hk _ => Go.heap_alloc_old w.drew _ hk⟩⟩
    · have hge := grownCap_ge w (n + m) n e
      simp only [Array.size_append, List.size_toArray, size_zeroCells, hzs, dst.1, src.1, ← Nat.add_mul]
      congr 1
      omega
    · have hlen : (xs ++ news).length = (n + m) * i.size := by rw [List.length_append, dst.1, src.1, Nat.add_mul]
      simp only [Array.toList_append, List.append_assoc]
      rw [← List.append_assoc, ← hlen]
      exact List.take_left
theorem gen_append {P : Program} {ts : Array TypeId} {ty : TypeId} {args : Array Value} {k : Value → World → Prop} {W : World} (h : ∀ W2, W2 = W → K_append P ts ty args W2 k) : K_append P ts ty args W k := h W rfl
theorem append_fullB {b off : Nat} {l m : List UInt8} {s : Value} (dst : BytesAt w (.slice (some ⟨b, off, none⟩) l.length l.length) l) (src : BytesAt w s m) (ty : TypeId) (hm : 0 < m.length) (hroom : l.length + m.length ≤ 140737488355328) :
    ∃ v' w', (Builtin.append_ #[31, 31] ty #[.slice (some ⟨b, off, none⟩) l.length l.length, s]).run Tryz.prog w = .ok v' w' ∧ OwnB w' w.heap.size v' (l ++ m) ∧ Upd noB w w' := by
  obtain ⟨v', w', h1, h2, h3⟩ := sl_append_full slByte dst.1 src.1 ty (u8_one m) hm (by omega) (by simp [maxLen]; omega)
  refine ⟨v', w', h1, ?_, (Upd.refl _ _).grown h3 (fun b hb => by cases hb)⟩
  unfold OwnB
  rw [List.length_append, List.map_append]
  exact h2
set_option maxHeartbeats 4000000 in
theorem lives_any (w : World) : CallP Tryz.prog 16 #[] w (fun r w' => r = .bool true ∧ Upd noB w w') := by
  refine call_den (args := []) Tryz.func16 rfl rfl (by simp [Tryz.ntmps16]) ?_
  simp [go_sem]
  refine gen_call ?_
  intro W hW
  have hu : Upd noB w W := by rw [hW]; exact (by repeat (first | exact Upd.refl _ _ | refine Upd.alloc ?_ _ | refine Upd.drew ?_ | refine Upd.drewN ?_ _ | refine Upd.setB ?_ _ _ (fun h => absurd h (by omega))))
  have hm : W.heap[w.heap.size]? = some (.cells (bareM h0).cells 41 (0, 0)) := by rw [hW, heap_setB, if_pos rfl, heap_alloc, if_pos rfl]; rfl
  clear hW
  show CallP Tryz.prog 12 #[.agg (bareM h0).cells] W _
  refine CallP.mono (put_bare h0 h0_ok h0_may rfl rfl (fun h => absurd h h0_rep) W) ?_
  rintro r W2 ⟨v, rfl, u2, own⟩
  have hu2 := hu.trans u2
  have hm2 := u2.get hm (by simp [noB])
  obtain ⟨b, hb⟩ : ∃ b, b = w.heap.size := ⟨_, rfl⟩
  rw [← hb] at hm hm2 ⊢
  have hbt : BytesAt W2 v echo0 := own.at
  clear hu u2 hm
  simp [go_sem]
  refine CallP.mono (get_bare hbt (by rw [echo0_len]; decide) (by rw [echo0_len]; decide) h0 h0_ok echo0_head echo0_bad rfl h0_rep rfl (by kernel_rfl)) ?_
  rintro r W3 ⟨u3, rfl⟩
  have hu3 := hu2.trans u3
  have hm3 := u3.get hm2 (by simp [noB])
  have hbt3 := hbt.keep0 u3
  clear hu2 u3 hm2 hbt
  rw [if_pos echo0_len]
  obtain ⟨p, cap, hv, hcap⟩ := hbt3.len
  rw [echo0_len] at hv hcap
  subst hv
  obtain ⟨b1, off, rfl⟩ : ∃ b off, p = some ⟨b, off, none⟩ := by
    rcases hbt3.1.2 with ⟨q, c, hv, h0⟩ | ⟨b, off, c, cc, te, f, hv, _⟩
    · rw [echo0_len] at h0; omega
    · injection hv with h1
      exact ⟨b, off, h1⟩
  have hc68 : (68 : Int) ≤ cap := by omega
  have hb1 : ∀ (w : World) (k : Value → World → Prop), K_buildSlice Tryz.prog 31 1 #[(0, .int .u8 0)] w k = k (.slice (some ⟨w.heap.size, 0, none⟩) 1 1) (w.alloc (.cells ([0].map u8V).toArray 5)) := fun w k => slByte.build1K (P := Tryz.prog) (w := w) (u8V 0) rfl (by decide) k
  simp [go_sem, hm3, hc68, hb1]
  have hu4 : Upd noB w (((W3.alloc (.cells zeroM.cells 41)).setB W3.heap.size (.cells (bareM h0).cells 41)).alloc (.cells #[u8V 0] 5)) := ((hu3.alloc _).setB _ _ (fun h => absurd h (by have := hu3.size; omega))).alloc _
  refine gen_append ?_
  intro W4 hW
  rw [← hW] at hu4
  have hsz := (old_ne hm3).1
  have hm4 : W4.heap[b]? = some (.cells (bareM h0).cells 41 (0, 0)) := by rw [hW, heap_alloc, if_neg (by simp [size_setB]; omega), heap_setB, if_neg (by omega), heap_alloc, if_neg (by omega)]; exact hm3
  have hq4 : W4.heap[W3.heap.size]? = some (.cells (bareM h0).cells 41 (0, 0)) := by rw [hW, heap_alloc, if_neg (by simp [size_setB]), heap_setB, if_pos rfl, heap_alloc, if_pos rfl]; rfl
  have h34 : Upd noB W3 W4 := by rw [hW]; exact (by repeat (first | exact Upd.refl _ _ | refine Upd.alloc ?_ _ | refine Upd.drew ?_ | refine Upd.drewN ?_ _ | refine Upd.setB ?_ _ _ (fun h => absurd h (by omega))))
  have hs4 : BytesAt W4 (.slice (some ⟨W3.heap.size + 1, 0, none⟩) 1 1) [0] := by
    refine ⟨⟨by simp, Or.inr ⟨W3.heap.size + 1, 0, 1, #[u8V 0], 5, (0, 0), rfl, by rw [hW, heap_alloc, if_pos (by simp [size_setB])], by simp, by simp⟩⟩, Nat.le_refl _⟩
  have hd4 : BytesAt W4 (.slice (some ⟨b1, off, none⟩) echo0.length echo0.length) echo0 := by
    have h1 := (hbt3.keep0 h34).1
    rcases h1.2 with ⟨q, c, hv, h0⟩ | ⟨b, off, c, cc, te, f, hv, hr⟩
    · rw [echo0_len] at h0; omega
    · cases hv
      exact ⟨⟨h1.1, Or.inr ⟨_, _, echo0.length, _, _, _, by rw [echo0_len], hr⟩⟩, Nat.le_refl _⟩
  obtain ⟨bq, hbq⟩ : ∃ bq, bq = W3.heap.size := ⟨_, rfl⟩
  have hwq : w.heap.size ≤ bq := by rw [hbq]; exact hu3.size
  rw [← hbq] at hq4 hs4 ⊢
  clear hW h34 hbt3 hm3 hu3
  obtain ⟨v5, W5, hrun, own5, u5⟩ := append_fullB hd4 hs4 31 (by decide) (by rw [echo0_len]; decide)
  rw [echo0_len] at hrun
  have hu5 := hu4.trans u5
  have hm5 := u5.get hm4 (by simp [noB])
  have hq5 := u5.get hq4 (by simp [noB])
  simp [go_sem, K_append_ok _ _ _ _ hrun]
  have h69 : (echo0 ++ [0]).length = 69 := by simp [echo0_len]
  refine CallP.mono (get_bare own5.at (by rw [h69]; decide) (by rw [h69]; decide) h0 h0_ok echo1_head echo1_bad rfl h0_rep rfl (by kernel_rfl)) ?_
  rintro r W6 ⟨u6, rfl⟩
  have hu6 := hu5.trans u6
  have hm6 := u6.get hm5 (by simp [noB])
  have hq6 := u6.get hq5 (by simp [noB])
  rw [if_neg (by rw [h69]; decide)]
  clear hu5 hu4 u5 u6 hm5 hm4 hq5 hq4 hrun own5 hs4 hd4
  simp [go_sem, hm6]
  refine gen_load ?_
  intro W7 hW
  have hsz6 := (old_ne hm6).1
  have hsq6 := (old_ne hq6).1
  have hu7 : Upd noB w W7 := by rw [hW]; exact (hu6.alloc _).setB _ _ (fun h => absurd h (by have := hu6.size; omega))
  have hm7 : W7.heap[b]? = some (.cells (bareM h0).cells 41 (0, 0)) := by rw [hW, heap_setB, if_neg (by omega), heap_alloc, if_neg (by omega)]; exact hm6
  have hq7 : W7.heap[bq]? = some (.cells (bareM h0).cells 41 (0, 0)) := by rw [hW, heap_setB, if_neg (by omega), heap_alloc, if_neg (by omega)]; exact hq6
  clear hW hu6 hm6 hq6
  simp [go_sem, hm7]
  show CallP Tryz.prog 21 #[.agg h0.cells, .int .i64 15] W7 _
  refine CallP.mono (answer_any h0 15 h0_ok W7) ?_
  rintro r W8 ⟨rfl, u8⟩
  have hu8 := hu7.trans u8
  have hm8 := u8.get hm7 (by simp [noB])
  have hq8 := u8.get hq7 (by simp [noB])
  clear u8 hm7 hq7 hu7
  simp [go_sem]
  refine gen_call ?_
  intro W9 hW
  have hsz8 := (old_ne hm8).1
  have hsq8 := (old_ne hq8).1
  have hu9 : Upd noB w W9 := by rw [hW]; exact (hu8.alloc _).setB _ _ (fun h => absurd h (by have := hu8.size; omega))
  have hm9 : W9.heap[b]? = some (.cells (bareM h0).cells 41 (0, 0)) := by rw [hW, heap_setB, if_neg (by omega), heap_alloc, if_neg (by omega)]; exact hm8
  have hq9 : W9.heap[bq]? = some (.cells (bareM h0).cells 41 (0, 0)) := by rw [hW, heap_setB, if_neg (by omega), heap_alloc, if_neg (by omega)]; exact hq8
  have hh9 : W9.heap[W8.heap.size]? = some (.cells (ansL h0 15).cells 28 (0, 0)) := by rw [hW, heap_setB, if_pos rfl, heap_alloc, if_pos rfl]; rfl
  obtain ⟨bh, hbh⟩ : ∃ bh, bh = W8.heap.size := ⟨_, rfl⟩
  rw [← hbh] at hh9 ⊢
  clear hW hu8 hm8 hq8
  show CallP Tryz.prog 12 #[.agg (bareM (ansL h0 15)).cells] W9 _
  refine CallP.mono (put_bare (ansL h0 15) (ansL_ok h0 15 h0_ok) (by decide) rfl rfl (fun _ => by decide) W9) ?_
  rintro r W10 ⟨v10, rfl, u10, own10⟩
  have hu10 := hu9.trans u10
  have hm10 := u10.get hm9 (by simp [noB])
  have hq10 := u10.get hq9 (by simp [noB])
  have hh10 := u10.get hh9 (by simp [noB])
  obtain ⟨p10, cap10, rfl, _⟩ := own10.at.len
  have e68 : (headB (ansL h0 15) ++ [0, 0, 0, 0]).length = 68 := by simp [headB_len]
  rw [e68]
  clear hu9 u10 hm9 hq9 hh9
  simp [go_sem, hm10, hq10]
  refine CallP.mono (same_bare h0 W10) ?_
  rintro r W11 ⟨rfl, u11⟩
  have hu11 := hu10.trans u11
  have hh11 := u11.get hh10 (by simp [noB])
  have ef : (ansL h0 15).status = 15 := by decide
  have ei : (ansL h0 15).id = 1 := by decide
  simp [go_sem, hh11, ef, ei]
  exact hu11
end Go.Proofs.YtinfdomlpbikaaaGreatDoor
namespace Go.Proofs.YtinfdomlpbikaaaGreatDoor
open Go.Eng
set_option linter.unusedSimpArgs false
set_option linter.unusedVariables false
set_option maxRecDepth 100000
variable {w w0 : World}
theorem head_cut0 (h : HeadV) (t : TypeId) (f : Nat × Nat) : cutIn (some (.cells h.cells t f)) 0 26 = some h.row := by
  rw [cutIn_some, if_pos (by rw [h.size]; omega)]
  show some ((h.row.drop 0).take 26) = some h.row
  rw [List.drop_zero, List.take_of_length_le (by rw [head_row_len]; omega)]
def BoxH (b : Nat) (h : HeadV) (g : Nat) (h2 : HeadV) (W : World) : Prop :=
  W.heap[b]? = some (.cells h.cells 28 (0, 0)) ∧ W.heap[g]? = some (.cells h2.cells 28 (0, 0))
set_option maxHeartbeats 4000000 in
theorem msgAnswers_any (h : HeadV) (st : Int) (ok : h.ok) (w : World) : CallP Tryz.prog 5 #[.agg h.cells, .int .i64 st] w (fun r w' => r = .bool true ∧ Upd noB w w') := by
  refine call_den (args := [_, _]) Tryz.func5 rfl rfl (by simp [Tryz.ntmps5]) ?_
  simp [go_sem]
  refine gen_call ?_
  intro W hW
  have hu : Upd noB w W := by rw [hW]; exact (by repeat (first | exact Upd.refl _ _ | refine Upd.alloc ?_ _ | refine Upd.drew ?_ | refine Upd.drewN ?_ _ | refine Upd.setB ?_ _ _ (fun h => absurd h (by omega))))
  have hb : W.heap[w.heap.size]? = some (.cells h.cells 28 (0, 0)) := by rw [hW]; simp [go_sem]
  clear hW
  refine CallP.mono (answer_any h st ok W) ?_
  rintro r W2 ⟨rfl, u2⟩
  have hu2 := hu.trans u2
  have hb2 := u2.get hb (by simp [noB])
  simp [go_sem]
  refine gen_draw ?_
  intro W3 hW
  have hu3 : Upd noB w W3 := by rw [hW]; exact (hu2.alloc _).setB _ _ (fun h => absurd h (by have := hu2.size; omega))
  have hb3 : W3.heap[w.heap.size]? = some (.cells h.cells 28 (0, 0)) := by
    have := (old_ne hb2).1
    rw [hW, heap_setB, if_neg (by omega), heap_alloc, if_neg (by omega)]; exact hb2
  have hg3 : W3.heap[W2.heap.size]? = some (.cells (ansL h st).cells 28 (0, 0)) := by rw [hW, heap_setB, if_pos rfl, heap_alloc, if_pos rfl]; rfl
  obtain ⟨bg, hbg⟩ : ∃ bg, bg = W2.heap.size := ⟨_, rfl⟩
  rw [← hbg] at hg3 ⊢
  clear hW u2 hu2 hb2 hu hb hbg
  obtain ⟨b, hbw⟩ : ∃ b, b = w.heap.size := ⟨_, rfl⟩
  rw [← hbw] at hb3 ⊢
  have hud : Upd noB w W3.drew := hu3.drew
  have hbd : W3.drew.heap[b]? = some (.cells h.cells 28 (0, 0)) := hb3
  have hgd : W3.drew.heap[bg]? = some (.cells (ansL h st).cells 28 (0, 0)) := hg3
  have lh : ∀ {W : World} {b : Nat} {h : HeadV}, W.heap[b]? = some (.cells h.cells 28 (0, 0)) → (Instr.loadAt 28 (.pointer (some ⟨b, 0, none⟩))).run Tryz.prog W = .ok (.agg h.cells) W := by
    intro W b h hx
    exact loadAt_cut (cs := h.row) (W := W) (b := b) (o := 0) (Tryz.isAgg28 _) (Tryz.sizeOf28 _) (by rw [hx]; exact head_cut0 h _ _)
  refine draw_script [.pure 2, .held [0, 1] 3, .one 4, .pure 5, .one 6, .one 7, .one 8, .pure 9, .one 10, .one 11, .one 12, .one 13, .pure 14, .one 15, .one 16, .one 17, .pure 18, .one 19, .one 20, .pure 21] (by kernel_rfl) (by kernel_rfl) (by kernel_rfl) ?_
  simp [go_sem]
  have hS : ∀ i : { W : World // BoxH b h bg (ansL h st) W }, (Instr.loadAt 28 (.pointer (some ⟨b, 0, none⟩))).run Tryz.prog i.1 = .ok (.agg h.cells) i.1 := fun i => lh i.2.1
  have hS2 : ∀ i : { W : World // BoxH b h bg (ansL h st) W }, (Instr.loadAt 28 (.pointer (some ⟨bg, 0, none⟩))).run Tryz.prog i.1 = .ok (.agg (ansL h st).cells) i.1 := fun i => lh i.2.2
  haveI : Nonempty { W : World // BoxH b h bg (ansL h st) W } := ⟨⟨W3.drew, hbd, hgd⟩⟩
  refine opsPh_held _ _ (BoxH b h bg (ansL h st)) ⟨hbd, hgd⟩ ?_
  simp [go_sem, Q_load_fix hS, Q_load_fix hS2]
  refine CallP.mono (refAnswer_any h st ok _) ?_
  rintro r W4 ⟨rfl, u4⟩
  have hb4 := u4.get hbd (by simp [noB])
  have hg4 := u4.get hgd (by simp [noB])
  have hu4 := hud.trans u4
  simp [go_sem]
  refine ⟨⟨hb4, hg4⟩, ?_⟩
  simp [go_sem, eqH_self, hb4]
  refine CallP.mono (refMay_any h ok _) ?_
  rintro r W5 ⟨rfl, u5⟩
  have hg5 := u5.get hg4 (by simp [noB])
  have hu5 := hu4.trans u5
  by_cases hm : mayL h = true
  · simp [go_sem, hm, hg5]
    refine CallP.mono (refMay_any (ansL h st) (ansL_ok h st ok) _) ?_
    rintro r W6 ⟨rfl, u6⟩
    have hg6 := u6.get hg5 (by simp [noB])
    have hu6 := hu5.trans u6
    have hm2 := ans_may h st hm
    have hr2 := ans_reply h st
    simp [go_sem, hm2, hg6]
    refine CallP.mono (isReply_any (ansL h st) (ansL_ok h st ok) _) ?_
    rintro r W7 ⟨rfl, u7⟩
    simp [go_sem, hr2]
    refine CallP.mono (lives_any _) ?_
    rintro r W8 ⟨rfl, u8⟩
    simp [go_sem]
    exact (hu6.trans u7).trans u8
  · have hm' : mayL h = false := by cases hx : mayL h <;> simp_all
    have hr2 := ans_reply h st
    simp [go_sem, hm', hg5]
    refine CallP.mono (isReply_any (ansL h st) (ansL_ok h st ok) _) ?_
    rintro r W7 ⟨rfl, u7⟩
    simp [go_sem, hr2]
    refine CallP.mono (lives_any _) ?_
    rintro r W8 ⟨rfl, u8⟩
    simp [go_sem]
    exact (hu5.trans u7).trans u8
end Go.Proofs.YtinfdomlpbikaaaGreatDoor
namespace Go.Proofs.YtinfdomlpbikaaaGreatDoor
open Go.Eng Go.Lib
set_option linter.unusedSimpArgs false
set_option linter.unusedVariables false
set_option maxRecDepth 100000
variable {w w0 : World}
structure MsgOwn (w : World) (base : Nat) (m : MsgV) (M : MsgS) : Prop where
  head : M.head = m.head
  ask : AskOwn w base m.ask M.ask
  say : SayOwn w base m.say M.say
def ParseR (w : World) (base : Nat) (r : Value) : Except Int MsgS → Prop
  | .ok M => ∃ m : MsgV, r = .tuple #[.agg m.cells, .int .i64 0] ∧ MsgOwn w base m M
  | .error e => ∃ m : MsgV, r = .tuple #[.agg m.cells, .int .i64 e]
theorem zeroAskOwn (w : World) (base : Nat) : AskOwn w base zeroA zeroAS := ⟨rfl, nilW _ _, World.ownsRow_nil _ _ _ _, nilL _ _⟩
theorem zeroSayOwn (w : World) (base : Nat) : SayOwn w base zeroS zeroSS := ⟨rfl, World.ownsRow_nil _ _ _ _, nilE _ _⟩
theorem bodyGet_ask {h : HeadV} (hr : ¬ hasF h.flags 1) (l : List UInt8) : bodyGet h l = match askG h.command l with | .ok a => .ok ⟨h, a, zeroSS⟩ | .error e => .error e := by
  unfold bodyGet askG
  rw [if_neg hr]
  cases askF h.command <;> rfl
theorem bodyGet_say {h : HeadV} (hr : hasF h.flags 1) (hs : h.status = 0) (l : List UInt8) : bodyGet h l = match sayG h.command l with | .ok a => .ok ⟨h, zeroAS, a⟩ | .error e => .error e := by
  unfold bodyGet sayG
  rw [if_pos hr, if_neg (by simpa using hs)]
  cases sayF h.command <;> rfl
theorem bodyGet_fault {h : HeadV} (hr : hasF h.flags 1) (hs : ¬ h.status = 0) (l : List UInt8) : bodyGet h l = if l.length < 4 then .error 4 else if l = [0, 0, 0, 0] then .ok ⟨h, zeroAS, zeroSS⟩ else .error 5 := by
  unfold bodyGet
  rw [if_pos hr, if_pos hs]
theorem known_cases {c : Int} (h0 : 0 ≤ c) (h : knownL c = true) : known8 c = true ∨ known8 c = false ∧ known9 c = true ∨ known8 c = false ∧ known9 c = false ∧ known10 c = true := by
  simp [knownL] at h
  simp [known8, known9, known10]
  omega
section
variable {W W' : World} {n0 bs : Nat}
theorem AskOwn.above {a : AskV} {A : AskS} {S : Nat → Prop} (h : AskOwn W n0 a A) (u : Upd S W W') (hS : ∀ i, S i → i < n0) : AskOwn W' n0 a A := ⟨h.f, own_above h.dia u hS, own_above h.dat u hS, own_above h.lok u hS⟩
theorem SayOwn.above {a : SayV} {A : SayS} {S : Nat → Prop} (h : SayOwn W n0 a A) (u : Upd S W W') (hS : ∀ i, S i → i < n0) : SayOwn W' n0 a A := ⟨h.f, own_above h.dat u hS, own_above h.ent u hS⟩
theorem AskOwn.base {a : AskV} {A : AskS} (h : AskOwn W n0 a A) (hb : bs ≤ n0) : AskOwn W bs a A := ⟨h.f, own_base h.dia hb, own_base h.dat hb, own_base h.lok hb⟩
theorem SayOwn.base {a : SayV} {A : SayS} (h : SayOwn W n0 a A) (hb : bs ≤ n0) : SayOwn W bs a A := ⟨h.f, own_base h.dat hb, own_base h.ent hb⟩
end
set_option maxHeartbeats 4000000 in
theorem parse_any {h : HeadV} (ok : h.ok) (hk : knownL h.command = true) {s : Value} {l : List UInt8} (hb : BytesAt w s l) (hl : l.length ≤ 1099511627776) :
    CallP Tryz.prog 46 #[.agg h.cells, s] w (fun r w' => Upd noB w w' ∧ ParseR w' w.heap.size r (bodyGet h l)) := by
  have h0 := ok.command.1
  obtain ⟨p, cap, rfl, hcap⟩ := hb.len
  refine call_den (args := [_, _]) Tryz.func46 rfl rfl (by simp [Tryz.ntmps46]) ?_
  simp [go_sem]
  refine gen_load ?_
  intro W hW
  have hu : Upd noB w W := by rw [hW]; exact (by repeat (first | exact Upd.refl _ _ | refine Upd.alloc ?_ _ | refine Upd.drew ?_ | refine Upd.drewN ?_ _ | refine Upd.setB ?_ _ _ (fun h => absurd h (by omega))))
  have e1 : ¬ w.heap.size = w.heap.size + 1 + 1 := by omega
  have hh : W.heap[w.heap.size]? = some (.cells h.cells 28 (0, 0)) := by rw [hW]; simp [go_sem, e1]
  have hr : W.heap[w.heap.size + 1]? = some (.cells zeroM.cells 41 (0, 0)) := by rw [hW]; simp [go_sem]
  have hm : W.heap[w.heap.size + 1 + 1]? = some (.cells (MsgV.cells ⟨h, zeroA, zeroS⟩) 41 (0, 0)) := by rw [hW]; simp [go_sem]
  clear hW e1
  have hn0 := hu.size
  generalize hb2 : w.heap.size + 1 + 1 = b2 at *
  generalize hb1 : w.heap.size + 1 = b1 at *
  generalize hb0 : w.heap.size = b0 at *
  simp [go_sem, hh]
  refine CallP.mono (isReply_any h ok _) ?_
  rintro r W1 ⟨rfl, u1⟩
  replace hu := hu.trans u1
  replace hh := u1.get hh (by simp [noB])
  replace hr := u1.get hr (by simp [noB])
  replace hm := u1.get hm (by simp [noB])
  clear u1
  by_cases hrep : hasF h.flags 1
  · by_cases hs : h.status = 0
    · rw [bodyGet_say hrep hs]
      simp [go_sem, hrep, hh, hs]
      by_cases h12 : h.command = 12
      · simp [go_sem, h12, hm, hr]
        rw [show sayG 12 l = .error 5 by simp [sayG, sayF]]
        exact ⟨hu.setB _ _ (fun h => absurd h (by omega)), _, rfl⟩
      · simp [go_sem, h12]
        rcases known_cases h0 hk with k8 | ⟨k8, k9⟩ | ⟨k8, k9, k10⟩
        · skip
          refine CallP.mono (known8_any _ _) ?_
          rintro r W2 ⟨rfl, hW2⟩
          rw [hW2]; clear hW2; clear W2
          simp [go_sem, k8]
          refine CallP.mono (ref08GetSay_any h0 k8 (hb.keep0 hu) hl) ?_
          rintro r W3 ⟨u3, hres⟩
          have hsz := hu.size
          have hlt := (old_ne hm).1
          replace hu := hu.trans u3
          replace hr := u3.get hr (by simp [noB])
          replace hm := u3.get hm (by simp [noB])
          clear u3 hh
          have e12 : ¬ b1 = b2 := by omega
          have h2 : ∀ o o', Upd (fun i => i = b1 ∨ i = b2) W3 ((W3.setB b2 o).setB b1 o') := fun o o' => ((Upd.refl _ _).setB _ _ (fun _ => Or.inr rfl)).setB _ _ (fun _ => Or.inl rfl)
          have hlo : ∀ i, i = b1 ∨ i = b2 → i < W1.heap.size := by intro i hi; omega
          cases hg : sayG h.command l with
          | ok A =>
            rw [hg] at hres
            obtain ⟨a, rfl, hown⟩ := hres
            simp [go_sem, hm, hr, e12]
            exact ⟨(hu.setB _ _ (fun h => absurd h (by omega))).setB _ _ (fun h => absurd h (by omega)), _, rfl, rfl, zeroAskOwn _ _, (hown.above (h2 _ _) hlo).base (by omega)⟩
          | error e =>
            rw [hg] at hres
            subst hres
            simp [go_sem, hm, hr, e12]
            exact ⟨(hu.setB _ _ (fun h => absurd h (by omega))).setB _ _ (fun h => absurd h (by omega)), _, rfl⟩
        · skip
          refine CallP.mono (known8_any _ _) ?_
          rintro r W2 ⟨rfl, hW2⟩
          rw [hW2]; clear hW2; clear W2
          simp [go_sem, k8]
          refine CallP.mono (known9_any _ _) ?_
          rintro r W2 ⟨rfl, hW2⟩
          rw [hW2]; clear hW2; clear W2
          simp [go_sem, k8, k9]
          refine CallP.mono (ref09GetSay_any h0 k9 (hb.keep0 hu) hl) ?_
          rintro r W3 ⟨u3, hres⟩
          have hsz := hu.size
          have hlt := (old_ne hm).1
          replace hu := hu.trans u3
          replace hr := u3.get hr (by simp [noB])
          replace hm := u3.get hm (by simp [noB])
          clear u3 hh
          have e12 : ¬ b1 = b2 := by omega
          have h2 : ∀ o o', Upd (fun i => i = b1 ∨ i = b2) W3 ((W3.setB b2 o).setB b1 o') := fun o o' => ((Upd.refl _ _).setB _ _ (fun _ => Or.inr rfl)).setB _ _ (fun _ => Or.inl rfl)
          have hlo : ∀ i, i = b1 ∨ i = b2 → i < W1.heap.size := by intro i hi; omega
          cases hg : sayG h.command l with
          | ok A =>
            rw [hg] at hres
            obtain ⟨a, rfl, hown⟩ := hres
            simp [go_sem, hm, hr, e12]
            exact ⟨(hu.setB _ _ (fun h => absurd h (by omega))).setB _ _ (fun h => absurd h (by omega)), _, rfl, rfl, zeroAskOwn _ _, (hown.above (h2 _ _) hlo).base (by omega)⟩
          | error e =>
            rw [hg] at hres
            subst hres
            simp [go_sem, hm, hr, e12]
            exact ⟨(hu.setB _ _ (fun h => absurd h (by omega))).setB _ _ (fun h => absurd h (by omega)), _, rfl⟩
        · skip
          refine CallP.mono (known8_any _ _) ?_
          rintro r W2 ⟨rfl, hW2⟩
          rw [hW2]; clear hW2; clear W2
          simp [go_sem, k8]
          refine CallP.mono (known9_any _ _) ?_
          rintro r W2 ⟨rfl, hW2⟩
          rw [hW2]; clear hW2; clear W2
          simp [go_sem, k8, k9]
          refine CallP.mono (ref10GetSay_any h0 k10 h12 (hb.keep0 hu) hl) ?_
          rintro r W3 ⟨u3, hres⟩
          have hsz := hu.size
          have hlt := (old_ne hm).1
          replace hu := hu.trans u3
          replace hr := u3.get hr (by simp [noB])
          replace hm := u3.get hm (by simp [noB])
          clear u3 hh
          have e12 : ¬ b1 = b2 := by omega
          have h2 : ∀ o o', Upd (fun i => i = b1 ∨ i = b2) W3 ((W3.setB b2 o).setB b1 o') := fun o o' => ((Upd.refl _ _).setB _ _ (fun _ => Or.inr rfl)).setB _ _ (fun _ => Or.inl rfl)
          have hlo : ∀ i, i = b1 ∨ i = b2 → i < W1.heap.size := by intro i hi; omega
          cases hg : sayG h.command l with
          | ok A =>
            rw [hg] at hres
            obtain ⟨a, rfl, hown⟩ := hres
            simp [go_sem, hm, hr, e12]
            exact ⟨(hu.setB _ _ (fun h => absurd h (by omega))).setB _ _ (fun h => absurd h (by omega)), _, rfl, rfl, zeroAskOwn _ _, (hown.above (h2 _ _) hlo).base (by omega)⟩
          | error e =>
            rw [hg] at hres
            subst hres
            simp [go_sem, hm, hr, e12]
            exact ⟨(hu.setB _ _ (fun h => absurd h (by omega))).setB _ _ (fun h => absurd h (by omega)), _, rfl⟩
    · rw [bodyGet_fault hrep hs]
      by_cases h4 : l.length < 4
      · have h4' : (l.length : Int) < 4 := by omega
        simp [go_sem, hrep, hh, hs, h4, h4', hm, hr]
        exact ⟨hu.setB _ _ (fun h => absurd h (by omega)), _, rfl⟩
      · have h4' : ¬ (l.length : Int) < 4 := by omega
        rw [if_neg h4]
        have hb4 : ∀ k, K_buildSlice Tryz.prog 31 4 #[(0, .int .u8 0), (1, .int .u8 0), (2, .int .u8 0), (3, .int .u8 0)] W1 k = k (.slice (some ⟨W1.heap.size, 0, none⟩) 4 4) (W1.alloc (.cells (([0, 0, 0, 0] : List UInt8).map u8V).toArray 5)) := fun k => b4u 0 0 0 0 W1 k
        simp [go_sem, hrep, hh, hs, h4', hm, hr, hb4]
        refine gen_call ?_
        intro W2 hW2
        have hu2 : Upd noB W1 W2 := by rw [hW2]; exact (Upd.refl _ _).alloc _
        have hz : RowAt W2 1 (.slice (some ⟨W1.heap.size, 0, none⟩) 4 4) ([0, 0, 0, 0] : List UInt8).length (([0, 0, 0, 0] : List UInt8).map u8V) := by
          rw [hW2]; exact RowAt.of_own (own_block (base := 0) (e := 5) (cap := 4) (c := (([0, 0, 0, 0] : List UInt8).map u8V).toArray) (by rw [heap_alloc, if_pos rfl]; rfl) (Nat.zero_le _) rfl (by decide))
        clear hW2 hb4
        refine CallP.mono (sameB_any ((hb.keep0 hu).keep0 hu2).1 hz (by omega)) ?_
        rintro r W3 ⟨x, rfl, hx, u3⟩
        replace hu := (hu.trans hu2).trans u3
        replace hr := (hu2.trans u3).get hr (by simp [noB])
        replace hm := (hu2.trans u3).get hm (by simp [noB])
        cases x
        · have hne : ¬ l = [0, 0, 0, 0] := fun e => by simpa using hx.2 e
          simp [go_sem, hm, hr, hne]
          exact ⟨hu.setB _ _ (fun h => absurd h (by omega)), _, rfl⟩
        · have he := hx.1 rfl
          simp [go_sem, hm, hr, he]
          exact ⟨hu.setB _ _ (fun h => absurd h (by omega)), _, rfl, rfl, zeroAskOwn _ _, zeroSayOwn _ _⟩
  · rw [bodyGet_ask hrep]
    simp [go_sem, hrep, hh]
    rcases known_cases h0 hk with k8 | ⟨k8, k9⟩ | ⟨k8, k9, k10⟩
    · skip
      refine CallP.mono (known8_any _ _) ?_
      rintro r W2 ⟨rfl, hW2⟩
      rw [hW2]; clear hW2; clear W2
      simp [go_sem, k8]
      refine CallP.mono (ref08GetAsk_any h0 k8 (hb.keep0 hu) hl) ?_
      rintro r W3 ⟨u3, hres⟩
      have hsz := hu.size
      have hlt := (old_ne hm).1
      replace hu := hu.trans u3
      replace hr := u3.get hr (by simp [noB])
      replace hm := u3.get hm (by simp [noB])
      clear u3 hh
      have e12 : ¬ b1 = b2 := by omega
      have h2 : ∀ o o', Upd (fun i => i = b1 ∨ i = b2) W3 ((W3.setB b2 o).setB b1 o') := fun o o' => ((Upd.refl _ _).setB _ _ (fun _ => Or.inr rfl)).setB _ _ (fun _ => Or.inl rfl)
      have hlo : ∀ i, i = b1 ∨ i = b2 → i < W1.heap.size := by intro i hi; omega
      cases hg : askG h.command l with
      | ok A =>
        rw [hg] at hres
        obtain ⟨a, rfl, hown⟩ := hres
        simp [go_sem, hm, hr, e12]
        exact ⟨(hu.setB _ _ (fun h => absurd h (by omega))).setB _ _ (fun h => absurd h (by omega)), _, rfl, rfl, (hown.above (h2 _ _) hlo).base (by omega), zeroSayOwn _ _⟩
      | error e =>
        rw [hg] at hres
        subst hres
        simp [go_sem, hm, hr, e12]
        exact ⟨(hu.setB _ _ (fun h => absurd h (by omega))).setB _ _ (fun h => absurd h (by omega)), _, rfl⟩
    · skip
      refine CallP.mono (known8_any _ _) ?_
      rintro r W2 ⟨rfl, hW2⟩
      rw [hW2]; clear hW2; clear W2
      simp [go_sem, k8]
      refine CallP.mono (known9_any _ _) ?_
      rintro r W2 ⟨rfl, hW2⟩
      rw [hW2]; clear hW2; clear W2
      simp [go_sem, k8, k9]
      refine CallP.mono (ref09GetAsk_any h0 k9 (hb.keep0 hu) hl) ?_
      rintro r W3 ⟨u3, hres⟩
      have hsz := hu.size
      have hlt := (old_ne hm).1
      replace hu := hu.trans u3
      replace hr := u3.get hr (by simp [noB])
      replace hm := u3.get hm (by simp [noB])
      clear u3 hh
      have e12 : ¬ b1 = b2 := by omega
      have h2 : ∀ o o', Upd (fun i => i = b1 ∨ i = b2) W3 ((W3.setB b2 o).setB b1 o') := fun o o' => ((Upd.refl _ _).setB _ _ (fun _ => Or.inr rfl)).setB _ _ (fun _ => Or.inl rfl)
      have hlo : ∀ i, i = b1 ∨ i = b2 → i < W1.heap.size := by intro i hi; omega
      cases hg : askG h.command l with
      | ok A =>
        rw [hg] at hres
        obtain ⟨a, rfl, hown⟩ := hres
        simp [go_sem, hm, hr, e12]
        exact ⟨(hu.setB _ _ (fun h => absurd h (by omega))).setB _ _ (fun h => absurd h (by omega)), _, rfl, rfl, (hown.above (h2 _ _) hlo).base (by omega), zeroSayOwn _ _⟩
      | error e =>
        rw [hg] at hres
        subst hres
        simp [go_sem, hm, hr, e12]
        exact ⟨(hu.setB _ _ (fun h => absurd h (by omega))).setB _ _ (fun h => absurd h (by omega)), _, rfl⟩
    · skip
      refine CallP.mono (known8_any _ _) ?_
      rintro r W2 ⟨rfl, hW2⟩
      rw [hW2]; clear hW2; clear W2
      simp [go_sem, k8]
      refine CallP.mono (known9_any _ _) ?_
      rintro r W2 ⟨rfl, hW2⟩
      rw [hW2]; clear hW2; clear W2
      simp [go_sem, k8, k9]
      refine CallP.mono (ref10GetAsk_any h0 k10 (hb.keep0 hu) hl) ?_
      rintro r W3 ⟨u3, hres⟩
      have hsz := hu.size
      have hlt := (old_ne hm).1
      replace hu := hu.trans u3
      replace hr := u3.get hr (by simp [noB])
      replace hm := u3.get hm (by simp [noB])
      clear u3 hh
      have e12 : ¬ b1 = b2 := by omega
      have h2 : ∀ o o', Upd (fun i => i = b1 ∨ i = b2) W3 ((W3.setB b2 o).setB b1 o') := fun o o' => ((Upd.refl _ _).setB _ _ (fun _ => Or.inr rfl)).setB _ _ (fun _ => Or.inl rfl)
      have hlo : ∀ i, i = b1 ∨ i = b2 → i < W1.heap.size := by intro i hi; omega
      cases hg : askG h.command l with
      | ok A =>
        rw [hg] at hres
        obtain ⟨a, rfl, hown⟩ := hres
        simp [go_sem, hm, hr, e12]
        exact ⟨(hu.setB _ _ (fun h => absurd h (by omega))).setB _ _ (fun h => absurd h (by omega)), _, rfl, rfl, (hown.above (h2 _ _) hlo).base (by omega), zeroSayOwn _ _⟩
      | error e =>
        rw [hg] at hres
        subst hres
        simp [go_sem, hm, hr, e12]
        exact ⟨(hu.setB _ _ (fun h => absurd h (by omega))).setB _ _ (fun h => absurd h (by omega)), _, rfl⟩
end Go.Proofs.YtinfdomlpbikaaaGreatDoor
namespace Go.Eng.Tr
open Go Go.Eng
set_option linter.unusedSimpArgs false
set_option linter.unusedVariables false
section
variable {P : Program}
inductive Tr where
  | done
  | pure (i : Nat) (t : Tr)
  | one (i : Nat) (t : Tr)
  | two (i : Nat) (t : Tr) (j : Nat) (u : Tr)
def quietK : Op → Bool
  | .call ⟨.builtin .len, _, _⟩ => true
  | op => readK op
def quietOp (ops : Array Oper) (i : Nat) : Bool :=
  match ops[i]? with
  | some o => quietK o.op
  | none => false
theorem onlyV_quiet {op : Op} {t : TypeId} {e : Operand → Value} (hp : quietK op = true) : OnlyV P (execOp e ⟨none, op, t, "", #[], none⟩) := by
  unfold quietK at hp
  split at hp
  · simp only [execOp, resolve, pure_bind, invoke, builtin]
    exact OnlyV.bind fun u => OnlyV.pure _
  · exact onlyV_read hp
theorem RunQ_quiet {op : Op} {t : TypeId} {e : Operand → Value} {v : Value} (hp : quietK op = true) (h : ∀ i : { w : World // True }, RunQ P (fun i : { w : World // True } => i.1) op t e i v) :
    ∀ w, (execOp e ⟨none, op, t, "", #[], none⟩).run P w = .ok (.value v) w := by
  intro w
  have h1 := h ⟨w, trivial⟩
  unfold RunQ at h1
  simp only at h1
  generalize hr : (execOp e ⟨none, op, t, "", #[], none⟩).run P w = r at h1
  cases r with
  | halt x w' => exact h1.elim
  | ok n w' =>
    obtain ⟨u, rfl⟩ := onlyV_quiet hp w w' n hr
    simp only [Oper.quietUpon] at h1
    obtain ⟨h1, h2⟩ := h1
    first | (subst h1; subst h2; rfl) | (obtain ⟨h3, h4⟩ := h2; subst h1; subst h3; rfl)
def Tr.len : Tr → Nat
  | .done => 0
  | .pure _ t => 1 + t.len
  | .one _ t => 1 + t.len
  | .two _ t _ _ => 1 + t.len
def chk (md : Region.Mode) (ops : Array Oper) : Tr → Array Bool → Bool
  | .done, listed => (Region.ready md ops listed).isEmpty
  | .pure i t, listed => (Region.ready md ops listed).contains i && Region.free md ops listed i && quietOp ops i && chk md ops t (listed.setIfInBounds i true)
  | .one i t, listed => decide (Region.ready md ops listed = [i]) && chk md ops t (listed.setIfInBounds i true)
  | .two i t j u, listed => decide (Region.ready md ops listed = [i, j]) && decide (t.len = u.len) && chk md ops t (listed.setIfInBounds i true) && chk md ops u (listed.setIfInBounds j true)
abbrev AnyW := { w : World // True }
instance : Nonempty AnyW := ⟨⟨default, trivial⟩⟩
def opsT (P : Program) (all : List Oper) (K : Env → World → Prop) : Tr → Env → World → Prop
  | .done, ρ, w => K ρ w
  | .pure i t, ρ, w => opsQ P (fun i : AnyW => i.1) (fun ρ' => opsT P all K t ρ' w) (strip all ((all[i]?).toList)) ρ
  | .one i t, ρ, w => opsS P (fun ρ' w' => opsT P all K t ρ' w') (strip all ((all[i]?).toList)) ρ w
  | .two i t j u, ρ, w => opsS P (fun ρ' w' => opsT P all K t ρ' w') (strip all ((all[i]?).toList)) ρ w ∧ opsS P (fun ρ' w' => opsT P all K u ρ' w') (strip all ((all[j]?).toList)) ρ w
theorem opsT_sound {n : Nat} {all : List Oper} {K : Env → World → Prop} {Q' : Exit → Act → World → Prop} (hlt : ∀ o ∈ all, ∀ d, o.dst = some d → d < n) (hsel : Region.noSelect all.toArray = true)
    (hQ : ∀ a w, a.tmps.size = n → a.defers = [] → K (envOf a) w → Q' .normal a w) (hP : ∀ c a w, ¬ Q' (.panic c) a w) :
    ∀ (t : Tr) (listed : Array Bool) (a : Act) (w : World), chk .any all.toArray t listed = true → HeadInv .any all.toArray all.toArray.size listed → a.tmps.size = n → a.defers = [] →
      opsT P all K t (envOf a) w → wpAny P .any all.toArray Q' t.len listed a w := by
  have mem : ∀ {i : Nat} {o : Oper}, all[i]? = some o → o ∈ all := fun h => List.mem_of_getElem? h
  have step : ∀ (t : Tr) (i : Nat) (listed : Array Bool) (a : Act) (w : World), (∀ (listed : Array Bool) (a : Act) (w : World), chk .any all.toArray t listed = true → HeadInv .any all.toArray all.toArray.size listed → a.tmps.size = n → a.defers = [] →
      opsT P all K t (envOf a) w → wpAny P .any all.toArray Q' t.len listed a w) → i ∈ Region.ready .any all.toArray listed → chk .any all.toArray t (listed.setIfInBounds i true) = true → HeadInv .any all.toArray all.toArray.size listed → a.tmps.size = n → a.defers = [] →
      opsS P (fun ρ' w' => opsT P all K t ρ' w') (strip all ((all[i]?).toList)) (envOf a) w → wpOp P all.toArray Q' i (wpAny P .any all.toArray Q' t.len (listed.setIfInBounds i true)) a w := by
    intro t i listed a w ih hk hc inv hs hd h
    obtain ⟨_, oi, hoi, _⟩ := mem_ready.1 hk
    have hoi' : all[i]? = some oi := by simpa using hoi
    simp only [hoi', Option.toList] at h
    rw [← opsE_strip] at h
    refine wpOp_onlyN hoi (wpList_of_opsE (n := n) (K := fun ρ' w' => opsT P all K t ρ' w') ?_ [oi] a w (by intro o ho; simp at ho; subst ho; exact hlt o (mem hoi')) hs hd h)
    intro a' w' h1 h2 h3
    exact ih _ _ _ hc (hinv_step inv hk) h1 h2 h3
  intro t
  induction t with
  | done =>
    intro listed a w hc _ hs hd h
    exact ⟨by simpa [chk] using hc, hQ a w hs hd h⟩
  | pure i t ih =>
    intro listed a w hc inv hs hd h
    simp only [chk, Bool.and_eq_true] at hc
    obtain ⟨⟨⟨hr, hf⟩, hp⟩, hc⟩ := hc
    have hk : i ∈ Region.ready .any all.toArray listed := by simpa using hr
    obtain ⟨_, oi, hoi, _⟩ := mem_ready.1 hk
    have hoi' : all[i]? = some oi := by simpa using hoi
    unfold quietOp at hp
    rw [hoi] at hp
    simp only [opsT, hoi', Option.toList] at h
    have hdst : ∀ d, oi.dst = some d → d < a.tmps.size := fun d hd' => by rw [hs]; exact hlt oi (mem hoi') d hd'
    have next : ∀ v, opsT P all K t (putE (envOf a) oi.dst v) w → wpAny P .any all.toArray Q' t.len (listed.setIfInBounds i true) (a.put oi.dst v) w := fun v hv =>
      ih _ _ _ hc (hinv_step inv hk) (by rw [put_size]; exact hs) (by rw [put_defers]; exact hd) (by rw [envOf_put a oi.dst v hdst]; exact hv)
    show wpAny P .any all.toArray Q' (1 + t.len) listed a w
    rw [Nat.add_comm 1]
    rcases opsQ_single h with ⟨hw, v, h1, h2⟩ | ⟨hw, h2⟩
    · refine wpAny_take hoi hsel hf hr (fun c a w h => absurd h (hP c _ _)) (.inl ⟨by rw [yieldE_envOf] at hw; exact hw, fun w' => ?_⟩) (next v h2)
      have := RunQ_quiet hp h1 w'
      rw [evE_envOf] at this
      exact this
    · exact wpAny_take hoi hsel hf hr (fun c a w h => absurd h (hP c _ _)) (.inr ⟨by rw [yieldE_envOf] at hw; exact hw, rfl⟩) (next undef h2)
  | one i t ih =>
    intro listed a w hc inv hs hd h
    simp only [chk, Bool.and_eq_true, decide_eq_true_eq] at hc
    obtain ⟨hr, hc⟩ := hc
    have hk : i ∈ Region.ready .any all.toArray listed := by rw [hr]; simp
    show wpAny P .any all.toArray Q' (1 + t.len) listed a w
    rw [Nat.add_comm 1]
    refine wpAny_all hr (by simp) (fun j hj => ?_)
    have hji : j = i := by simpa using hj
    subst hji
    exact step t j listed a w ih hk hc inv hs hd h
  | two i t j u iht ihu =>
    intro listed a w hc inv hs hd h
    simp only [chk, Bool.and_eq_true, decide_eq_true_eq] at hc
    obtain ⟨⟨⟨hr, hl⟩, hct⟩, hcu⟩ := hc
    have hki : i ∈ Region.ready .any all.toArray listed := by rw [hr]; simp
    have hkj : j ∈ Region.ready .any all.toArray listed := by rw [hr]; simp
    show wpAny P .any all.toArray Q' (1 + t.len) listed a w
    rw [Nat.add_comm 1]
    refine wpAny_all hr (by simp) (fun k hk => ?_)
    have hkk : k = i ∨ k = j := by simpa using hk
    rcases hkk with rfl | rfl
    · exact step t k listed a w iht hki hct inv hs hd h.1
    · rw [hl]
      exact step u k listed a w ihu hkj hcu inv hs hd h.2
/-- a region that draws its order: by a tree -/
theorem draw_tree {n id : Nat} {l : List Oper} {K : Env → World → Prop} {w : World} {ρ : Env} (t : Tr) (hm : P.follows .mixedOrders = true) (hB : (Region.noSelect l.toArray && chk .any l.toArray t (Array.replicate l.toArray.size false) && decide (t.len = l.toArray.size)) = true) (hn : opsLt n l.toArray = true)
    (h : opsT P l K t ρ w.drew) : DrawE P n id l.toArray K ρ w := by
  intro a hs hd he
  subst he
  simp only [Bool.and_eq_true, decide_eq_true_eq] at hB
  refine wp_region_any hm ?_
  have := opsT_sound (P := P) (Q' := fun e a' w' => a'.tmps.size = n ∧ a'.defers = [] ∧ thenE K (fun _ _ _ => False) e (envOf a') w') (opsLt_spec hn) hB.1.1 (fun a w g1 g2 g3 => ⟨g1, g2, g3⟩) (fun c a w h => h.2.2) t _ a w.drew hB.1.2 (hinv_zero _ _) hs hd h
  rw [hB.2] at this
  exact this
theorem opsT_nil {all : List Oper} {K : Env → World → Prop} {ρ : Env} {w : World} : opsT P all K .done ρ w = K ρ w := (rfl)
def contT (P : Program) (all : List Oper) (K : Env → World → Prop) (t : Tr) (w : World) (ρ : Env) : Prop := opsT P all K t ρ w
theorem contT_app {all : List Oper} {K : Env → World → Prop} {t : Tr} {ρ : Env} {w : World} : contT P all K t w ρ = opsT P all K t ρ w := (rfl)
theorem opsT_pure {all : List Oper} {K : Env → World → Prop} {t : Tr} {ρ : Env} {w : World} (i : Nat) : opsT P all K (.pure i t) ρ w = opsQ P (fun i : AnyW => i.1) (contT P all K t w) (strip all ((all[i]?).toList)) ρ := (rfl)
theorem opsT_one {all : List Oper} {K : Env → World → Prop} {t : Tr} {ρ : Env} {w : World} (i : Nat) : opsT P all K (.one i t) ρ w = opsS P (opsT P all K t) (strip all ((all[i]?).toList)) ρ w := (rfl)
theorem opsT_two {all : List Oper} {K : Env → World → Prop} {t u : Tr} {ρ : Env} {w : World} (i j : Nat) : opsT P all K (.two i t j u) ρ w = (opsS P (opsT P all K t) (strip all ((all[i]?).toList)) ρ w ∧ opsS P (opsT P all K u) (strip all ((all[j]?).toList)) ρ w) := (rfl)
end
attribute [go_sem] opsT_nil contT_app opsT_pure opsT_one
end Go.Eng.Tr
