/-
  What is asked, got by the program: what a Set asks, what a Create asks.
  What is asked, got by the program: what a Create asks.
  What is asked and said at a talk's begin and end, got by the program.
  What is asked and said at a talk's begin, got by the program: dialects, arrays.
  What is asked at a talk's begin, got by the program: the list of dialects.
-/
import Derived.Test.YtinfdomlpbikaaaGreatDoorFre6
namespace Go.Proofs.YtinfdomlpbikaaaGreatDoor
open Go.Eng Go.Lib
set_option linter.unusedSimpArgs false
set_option linter.unusedVariables false
set_option maxRecDepth 100000
variable {w w0 : World}
def SetOut (w W : World) (rb b ba : Nat) (T : TypeId) (p : Option Addr) (cap : Nat) (l : List UInt8) (st : Except Int (List UInt8)) (f : Int) (r : Value) (W' : World) : Prop :=
  r = .tuple #[] ∧ ∃ st2 st' A' x2 v, GS w W' rb b ba T p cap l st' A' ∧ Rd (chkC (numC 2) (fun c => decide (1 ≤ c ∧ c ≤ 3)) 5) st st2 x2 ∧ Rd (clsC x2) st2 st' v ∧ ((∀ e, st' ≠ .error e) → A' = { zeroA with file := f, cls := x2, size_ := v.1, on := v.2.1, name := v.2.2 })
set_option maxHeartbeats 2000000 in
theorem infoSet_any {W : World} {rb b ba : Nat} {T : TypeId} {p : Option Addr} {cap : Nat} {l : List UInt8} {st : Except Int (List UInt8)} {f : Int} (g : GS w W rb b ba T p cap l st { zeroA with file := f }) :
    CallP Tryz.prog 140 #[.pointer (some ⟨b, 0, none⟩), .pointer (some ⟨ba, 0, none⟩)] W (SetOut w W rb b ba T p cap l st f) := by
  refine call_den (args := [_, _]) Tryz.func140 rfl rfl (by simp [Tryz.ntmps140]) ?_
  simp [go_sem]
  refine CallP.mono (infoN (k := 2) (by decide) g.rd) ?_
  rintro v W1 ⟨x2, rfl, p2, q2, u, st2, I, R2⟩
  replace g := g.read u I
  clear u I
  have c2 : IntKind.u16.wrap x2 = x2 := wrap16 p2 q2
  simp [go_sem, g.ask, c2]
  obtain ⟨a, e, hc, hst⟩ := g.rd.cell
  by_cases h12 : 1 ≤ x2 ∧ x2 ≤ 3
  · have RC := cls_ok h12 R2
    rcases (by omega : x2 = 1 ∨ x2 = 2 ∨ x2 = 3) with rfl | rfl | rfl
    · simp [go_sem, g.ask, c2]
      refine gen_call ?_
      intro W2 hW2
      replace g := g.set _ hW2
      clear hW2
      refine CallP.mono (infoN (k := 8) (by decide) g.rd) ?_
      rintro v W1 ⟨x3, rfl, p3, q3, u, st3, I, R3⟩
      replace g := g.read u I
      clear u I
      simp [go_sem, g.ask]
      exact ⟨rfl, _, _, _, _, _, g.set _ rfl, RC, cls1 R3, fun _ => rfl⟩
    · simp [go_sem, g.ask, c2]
      refine gen_call ?_
      intro W2 hW2
      replace g := g.set _ hW2
      clear hW2
      refine CallP.mono (infoTruth g.rd) ?_
      rintro v W1 ⟨x3, rfl, u, st3, I, R3⟩
      replace g := g.read u I
      clear u I
      simp [go_sem, g.ask]
      exact ⟨rfl, _, _, _, _, _, g.set _ rfl, RC, cls2 R3, fun _ => rfl⟩
    · simp [go_sem, g.ask, c2]
      refine gen_call ?_
      intro W2 hW2
      replace g := g.set _ hW2
      clear hW2
      refine CallP.mono (infoTruth g.rd) ?_
      rintro v W1 ⟨x3, rfl, u, st3, I, R3⟩
      replace g := g.read u I
      clear u I
      simp [go_sem, g.ask]
      refine gen_call ?_
      intro W2 hW2
      replace g := g.set _ hW2
      clear hW2
      refine CallP.mono (infoText g.rd) ?_
      rintro v W1 ⟨x4, rfl, u, st4, I, R4⟩
      replace g := g.read u I
      clear u I
      simp [go_sem, g.ask]
      exact ⟨rfl, _, _, _, _, _, g.set _ rfl, RC, cls3 R3 R4, fun _ => rfl⟩
  · have hx1 : ¬ x2 = 1 := by omega
    have hx2 : ¬ x2 = 2 := by omega
    have hx3 : ¬ x2 = 3 := by omega
    have hne := g.ne.1
    cases st2 with
    | error z =>
      obtain ⟨rfl, hz⟩ := hst
      have RC := cls_err R2
      simp [go_sem, g.ask, c2, hx1, hx2, hx3, heap_setB, hne, Ne.symm hne, hc, hz]
      exact ⟨rfl, _, _, _, _, (0, false, ByteArray.empty), g.set _ rfl, RC, rd_err, fun h => absurd rfl (h _)⟩
    | ok r =>
      obtain ⟨rfl, hst⟩ := hst
      have RC := cls_bad h12 R2
      simp [go_sem, g.ask, c2, hx1, hx2, hx3, heap_setB, hne, Ne.symm hne, hc]
      exact ⟨rfl, _, _, _, _, (0, false, ByteArray.empty), (g.set _ rfl).err5 (by rw [heap_setB, if_neg (Ne.symm hne)]; exact hc) rfl, RC, rd_err, fun h => absurd rfl (h _)⟩
set_option maxHeartbeats 2000000 in
theorem infoGetAsk17 {s : Value} {l : List UInt8} (hb : BytesAt w s l) (hl : l.length ≤ 1099511627776) : CallP Tryz.prog 89 #[.int .u16 17, s] w (fun r w' => Upd noB w w' ∧ AskRes w' w.heap.size r (askF17.get l)) := by
  obtain ⟨p, cap, rfl, hcap⟩ := hb.len
  refine call_den (args := [_, _]) Tryz.func89 rfl rfl (by simp [Tryz.ntmps89]) ?_
  simp [go_sem]
  refine CallP.mono (infoKnown_any _ _) ?_
  rintro r W ⟨rfl, hW⟩
  have hu : Upd noB w W := by rw [hW]; exact (by repeat (first | exact Upd.refl _ _ | refine Upd.alloc ?_ _ | refine Upd.drew ?_ | refine Upd.drewN ?_ _ | refine Upd.setB ?_ _ _ (fun h => absurd h (by omega))))
  have h0 : W.heap[w.heap.size]? = some (.cells zeroA.cells 34 (0, 0)) := by rw [hW, heap_alloc, if_pos rfl]
  clear hW
  simp [go_sem, known10]
  refine gen_call ?_
  intro W2 hW2
  have g := GS.start (T := 153) hb hl hu h0 hW2
  clear hW2 h0 hu
  generalize W.heap.size = b at *
  generalize w.heap.size = rb at *
  clear W
  revert W2
  intro W g
  refine CallP.mono (infoN (k := 8) (by decide) g.rd) ?_
  rintro v W1 ⟨x1, rfl, p1, q1, u, st1, I, R1⟩
  replace g := g.read u I
  clear u I
  simp [go_sem, g.ask]
  refine gen_call ?_
  intro W2 hW2
  replace g := g.set _ hW2
  clear hW2
  refine CallP.mono (infoSet_any g) ?_
  rintro v W1 ⟨rfl, st2, st3, A3, x2, y, g, RC, RV, hA⟩
  simp [go_sem]
  refine CallP.mono (infoEnd g.rd) ?_
  have hne := g.rd.ne
  rintro v W1 ⟨rfl, u, stE, I⟩
  replace g := g.read u I
  clear u I
  have G := (askF17).of_rd (ask17_of R1 RC RV) hne
  by_cases hf : finE st3 = 0
  · have hA' := hA (by intro e he; exact hne e he (by rw [he] at hf; exact hf))
    subst hA'
    rw [if_pos hf] at G
    simp [go_sem, hf, g.ask, g.res]
    exact ⟨g.rd.u.setB _ _ (fun h => absurd h (by have := g.ne; omega)), by rw [G]; exact ⟨_, rfl, rfl, nilW _ _, nil_own _ _, nilL _ _⟩⟩
  · rw [if_neg hf] at G
    simp [go_sem, hf, g.ask, g.res]
    exact ⟨g.rd.u.setB _ _ (fun h => absurd h (by have := g.ne; omega)), by rw [G]; rfl⟩
end Go.Proofs.YtinfdomlpbikaaaGreatDoor
namespace Go.Proofs.YtinfdomlpbikaaaGreatDoor
open Go.Eng Go.Lib
set_option linter.unusedSimpArgs false
set_option linter.unusedVariables false
set_option maxRecDepth 100000
variable {w w0 : World}
theorem slPtr : SlT Tryz.prog 172 171 1 8 :=
  SlT.mk' Tryz.underlying172 (i := Tryz.t171) (z := .pointer none) (by kernel_rfl) (by kernel_rfl) (by kernel_rfl) (by kernel_rfl) rfl (by decide)
def RdCh {α : Type} (C : Codec α) : List α → Except Int (List UInt8) → Except Int (List UInt8) → Prop
  | [], s, s' => s' = s
  | a :: r, s, s' => ∃ s1, Rd C s s1 a ∧ RdCh C r s1 s'
theorem RdCh.snoc {α : Type} {C : Codec α} : ∀ {xs : List α} {a : α} {s s1 s2 : Except Int (List UInt8)}, RdCh C xs s s1 → Rd C s1 s2 a → RdCh C (xs ++ [a]) s s2
  | [], a, s, s1, s2, h, h2 => by
    have : s1 = s := h
    subst this
    exact ⟨s2, h2, rfl⟩
  | x :: xs, a, s, s1, s2, ⟨s3, h, h'⟩, h2 => ⟨s3, h, RdCh.snoc h' h2⟩
def crA (xs : List Int) : AskV := { zeroA with access := xs.getD 0 0, sharing := xs.getD 1 0, way := xs.getD 2 0, options := xs.getD 3 0 }
theorem crA_0 {xs : List Int} (h : xs.length = 0) (x : Int) : { crA xs with access := x } = crA (xs ++ [x]) := by
  have := List.eq_nil_of_length_eq_zero h
  subst this
  rfl
theorem crA_1 {xs : List Int} (h : xs.length = 1) (x : Int) : { crA xs with sharing := x } = crA (xs ++ [x]) := by
  match xs, h with
  | [a], _ => rfl
theorem crA_2 {xs : List Int} (h : xs.length = 2) (x : Int) : { crA xs with way := x } = crA (xs ++ [x]) := by
  match xs, h with
  | [a, b], _ => rfl
theorem crA_3 {xs : List Int} (h : xs.length = 3) (x : Int) : { crA xs with options := x } = crA (xs ++ [x]) := by
  match xs, h with
  | [a, b, c], _ => rfl
theorem GS.fin {W : World} {rb b ba : Nat} {T : TypeId} {p : Option Addr} {cap : Nat} {l : List UInt8} {st st' : Except Int (List UInt8)} {A : AskV} {a e a' e' e1 : Int} (g : GS w W rb b ba T p cap l st A) (X : Obj) (hc : W.heap[b]? = some (.cells (rdC (.slice p l.length cap) a e []) T (0, 0))) (hs : StOk l a' e' st') (Y : Obj) :
    RdI w ((((W.setB ba X).setB b (.cells (rdC (.slice p l.length cap) a' e1 []) T (0, 0))).setB b (.cells (rdC (.slice p l.length cap) a' e' []) T (0, 0))).setB rb Y) b T p cap l [] st' := by
  have h1 := g.ne
  have u1 : Upd (fun x => x = ba) W (W.setB ba X) := (Upd.refl _ _).setB _ _ (fun _ => rfl)
  have I1 := g.rd.keep u1 (fun h => h1.1 h.symm) (fun i h => by subst h; exact h1.2.2.2.1)
  have hc1 : (W.setB ba X).heap[b]? = some (.cells (rdC (.slice p l.length cap) a e []) T (0, 0)) := u1.get hc (fun h => h1.1 h.symm)
  have u2 : Upd (fun x => x = b) (W.setB ba X) (((W.setB ba X).setB b (.cells (rdC (.slice p l.length cap) a' e1 []) T (0, 0))).setB b (.cells (rdC (.slice p l.length cap) a' e' []) T (0, 0))) := ((Upd.refl (fun x => x = b) _).setB _ _ (fun _ => rfl)).setB _ _ (fun _ => rfl)
  have I2 := I1.set (st' := st') u2 (a := a') (e := e') (rest' := []) (by rw [heap_setB, if_pos rfl, heap_setB, if_pos rfl, hc1]; rfl) hs
  exact I2.keep (S := fun x => x = rb) ((Upd.refl _ _).setB _ _ (fun _ => rfl)) (fun h => h1.2.1 h.symm) (fun i h => by subst h; exact h1.2.2.2.2)
def ptrs (ba : Nat) : List Value := [.pointer (some ⟨ba, 51, none⟩), .pointer (some ⟨ba, 52, none⟩), .pointer (some ⟨ba, 53, none⟩), .pointer (some ⟨ba, 54, none⟩)]
def PtrAt (bs ba : Nat) (W : World) : Prop := W.heap[bs]? = some (.cells (ptrs ba).toArray 171 (0, 0))
theorem PtrAt.row {bs ba : Nat} {W : World} (h : PtrAt bs ba W) : RowAt W 1 (.slice (some ⟨bs, 0, none⟩) 4 4) 4 (ptrs ba) :=
  ⟨rfl, Or.inr ⟨bs, 0, 4, _, _, _, rfl, h, by simp [ptrs], by simp [ptrs]⟩⟩
def CrI (w W0 : World) (rb b ba bs : Nat) (T : TypeId) (p : Option Addr) (cap : Nat) (l : List UInt8) (st0 : Except Int (List UInt8)) (m : Nat) (ρ : Env) (W : World) : Prop :=
  ∃ (i : Nat) (xs : List Int) (st : Except Int (List UInt8)), m = 4 - i ∧ i ≤ 4 ∧ xs.length = i ∧ RdCh (numC 4) xs st0 st ∧ ρ 0 = .pointer (some ⟨b, 0, none⟩) ∧ ρ 2 = .pointer (some ⟨rb, 0, none⟩) ∧ ρ 3 = .pointer (some ⟨ba, 0, none⟩) ∧ ρ 13 = .slice (some ⟨bs, 0, none⟩) 4 4 ∧ ρ 14 = .int .i64 4 ∧ ρ 15 = .int .i64 i ∧
    GS w W rb b ba T p cap l st (crA xs) ∧ PtrAt bs ba W ∧ Upd (fun x => x = b) W0 W
def CreateOut (w W : World) (b : Nat) (T : TypeId) (p : Option Addr) (cap : Nat) (l : List UInt8) (st : Except Int (List UInt8)) (r : Value) (W' : World) : Prop :=
  ∃ st' v, Upd (fun x => x = b) W W' ∧ RdI w W' b T p cap l [] st' ∧ Rd askF5.C st st' v ∧ r = .agg (askF5.mkS v).f.cells
set_option maxHeartbeats 4000000 in
theorem fileCreate_any {W : World} {b : Nat} {T : TypeId} {p : Option Addr} {cap : Nat} {l : List UInt8} {st : Except Int (List UInt8)} (I : RdI w W b T p cap l [] st) :
    CallP Tryz.prog 120 #[.pointer (some ⟨b, 0, none⟩)] W (CreateOut w W b T p cap l st) := by
  obtain ⟨a, e, hc, hst⟩ := I.cell
  have hbW := (Array.getElem?_eq_some_iff.1 hc).1
  obtain ⟨W0, hW0⟩ : ∃ W0, W0 = W := ⟨_, rfl⟩
  refine call_den (args := [_]) Tryz.func120 rfl rfl (by simp [Tryz.ntmps120]) ?_
  simp [go_sem]
  rw [slPtr.buildN 4 _ rfl (by simp [Value.cells]) (by decide) (by decide)]
  simp [go_sem, Value.cells]
  refine gen_den ?_
  intro W2 hW2
  have hw0 := I.u.size
  have u2 : Upd noB W W2 := by rw [hW2]; exact (by repeat (first | exact Upd.refl _ _ | refine Upd.alloc ?_ _ | refine Upd.drew ?_ | refine Upd.drewN ?_ _ | refine Upd.setB ?_ _ _ (fun h => absurd h (by omega))))
  have hp : PtrAt (W0.heap.size + 1 + 1) (W0.heap.size + 1) W2 := by
    unfold PtrAt; rw [hW0, hW2, heap_alloc, if_pos (by simp)]; rfl
  have g : GS w W2 W0.heap.size b (W0.heap.size + 1) T p cap l st (crA []) := by
    refine ⟨I.keep u2 (fun h => h) (fun _ h => h.elim), ?_, ?_, by rw [hW0]; omega, by rw [hW0]; omega, by omega, by rw [hW0]; omega, by rw [hW0]; omega⟩
    · rw [hW2, heap_alloc, if_neg (by rw [hW0]; simp), heap_alloc, if_pos (by rw [hW0]; simp)]; rfl
    · rw [hW2, heap_alloc, if_neg (by rw [hW0]; simp; omega), heap_alloc, if_neg (by rw [hW0]; simp), heap_alloc, if_pos (by rw [hW0])]
  have hbs : W0.heap.size + 1 + 1 ≠ b ∧ W0.heap.size + 1 + 1 ≠ W0.heap.size + 1 := by rw [hW0]; omega
  rw [← hW0]
  clear hW2
  refine den_loop (CrI w W0 W0.heap.size b (W0.heap.size + 1) (W0.heap.size + 1 + 1) T p cap l st) 4 ?_ ?_
  · exact ⟨0, [], st, rfl, by omega, rfl, rfl, by simp [go_sem], by simp [go_sem], by simp [go_sem], by simp [go_sem], by simp [go_sem], by simp [go_sem], g, hp, by rw [hW0]; exact u2.mono (fun _ _ h => h.elim)⟩
  clear g hp
  generalize hbsd : W0.heap.size + 1 + 1 = bs at *
  rintro m ρ W3 ⟨i, xs, st1, rfl, hi, hxs, RC, g0, g2, g3, g13, g14, g15, g, hp, U⟩
  rcases (by omega : i = 0 ∨ i = 1 ∨ i = 2 ∨ i = 3 ∨ i = 4) with rfl | rfl | rfl | rfl | rfl
  · skip
    obtain ⟨q, hidx, hld, hK⟩ := hp.row.at1 (P := Tryz.prog) (t := 172) (e := 171) Tryz.underlying172 Tryz.sizeOf171 Tryz.isAgg171 0 (by decide) _ rfl
    have hidx0 : (Instr.indexAt 172 (.slice (some ⟨bs, 0, none⟩) 4 4) (.int .i64 0)).run Tryz.prog W3 = .ok (.pointer (some q)) W3 := hidx .i64
    simp [go_sem, g0, g2, g3, g13, g14, g15, hidx0, hK]
    refine CallP.mono (fileN4 g.rd) ?_
    rintro v W1 ⟨x, rfl, px, qx, u, st1, I, R⟩
    replace hp : PtrAt bs (W0.heap.size + 1) W1 := u.get hp hbs.1
    replace U := U.trans u
    replace g := g.read u I
    clear u I
    have cx : IntKind.u32.wrap x = x := wrap32 px qx
    simp [go_sem, g0, g2, g3, g13, g14, g15, g.ask, cx]
    refine ⟨4 - (0 + 1), by omega, 0 + 1, xs ++ [x], st1, rfl, by omega, by simp [hxs], RC.snoc R, by simp [go_sem, g0], by simp [go_sem, g2], by simp [go_sem, g3], by simp [go_sem, g13], by simp [go_sem, g14], by simp [go_sem, g15]; decide, g.set _ (by rw [crA_0 hxs]), ?_, U.setB _ _ (fun h => absurd h (by omega))⟩
    unfold PtrAt
    rw [heap_setB, if_neg hbs.2]
    exact hp
  · skip
    obtain ⟨q, hidx, hld, hK⟩ := hp.row.at1 (P := Tryz.prog) (t := 172) (e := 171) Tryz.underlying172 Tryz.sizeOf171 Tryz.isAgg171 1 (by decide) _ rfl
    have hidx0 : (Instr.indexAt 172 (.slice (some ⟨bs, 0, none⟩) 4 4) (.int .i64 1)).run Tryz.prog W3 = .ok (.pointer (some q)) W3 := hidx .i64
    simp [go_sem, g0, g2, g3, g13, g14, g15, hidx0, hK]
    refine CallP.mono (fileN4 g.rd) ?_
    rintro v W1 ⟨x, rfl, px, qx, u, st1, I, R⟩
    replace hp : PtrAt bs (W0.heap.size + 1) W1 := u.get hp hbs.1
    replace U := U.trans u
    replace g := g.read u I
    clear u I
    have cx : IntKind.u32.wrap x = x := wrap32 px qx
    simp [go_sem, g0, g2, g3, g13, g14, g15, g.ask, cx]
    refine ⟨4 - (1 + 1), by omega, 1 + 1, xs ++ [x], st1, rfl, by omega, by simp [hxs], RC.snoc R, by simp [go_sem, g0], by simp [go_sem, g2], by simp [go_sem, g3], by simp [go_sem, g13], by simp [go_sem, g14], by simp [go_sem, g15]; decide, g.set _ (by rw [crA_1 hxs]), ?_, U.setB _ _ (fun h => absurd h (by omega))⟩
    unfold PtrAt
    rw [heap_setB, if_neg hbs.2]
    exact hp
  · skip
    obtain ⟨q, hidx, hld, hK⟩ := hp.row.at1 (P := Tryz.prog) (t := 172) (e := 171) Tryz.underlying172 Tryz.sizeOf171 Tryz.isAgg171 2 (by decide) _ rfl
    have hidx0 : (Instr.indexAt 172 (.slice (some ⟨bs, 0, none⟩) 4 4) (.int .i64 2)).run Tryz.prog W3 = .ok (.pointer (some q)) W3 := hidx .i64
    simp [go_sem, g0, g2, g3, g13, g14, g15, hidx0, hK]
    refine CallP.mono (fileN4 g.rd) ?_
    rintro v W1 ⟨x, rfl, px, qx, u, st1, I, R⟩
    replace hp : PtrAt bs (W0.heap.size + 1) W1 := u.get hp hbs.1
    replace U := U.trans u
    replace g := g.read u I
    clear u I
    have cx : IntKind.u32.wrap x = x := wrap32 px qx
    simp [go_sem, g0, g2, g3, g13, g14, g15, g.ask, cx]
    refine ⟨4 - (2 + 1), by omega, 2 + 1, xs ++ [x], st1, rfl, by omega, by simp [hxs], RC.snoc R, by simp [go_sem, g0], by simp [go_sem, g2], by simp [go_sem, g3], by simp [go_sem, g13], by simp [go_sem, g14], by simp [go_sem, g15]; decide, g.set _ (by rw [crA_2 hxs]), ?_, U.setB _ _ (fun h => absurd h (by omega))⟩
    unfold PtrAt
    rw [heap_setB, if_neg hbs.2]
    exact hp
  · skip
    obtain ⟨q, hidx, hld, hK⟩ := hp.row.at1 (P := Tryz.prog) (t := 172) (e := 171) Tryz.underlying172 Tryz.sizeOf171 Tryz.isAgg171 3 (by decide) _ rfl
    have hidx0 : (Instr.indexAt 172 (.slice (some ⟨bs, 0, none⟩) 4 4) (.int .i64 3)).run Tryz.prog W3 = .ok (.pointer (some q)) W3 := hidx .i64
    simp [go_sem, g0, g2, g3, g13, g14, g15, hidx0, hK]
    refine CallP.mono (fileN4 g.rd) ?_
    rintro v W1 ⟨x, rfl, px, qx, u, st1, I, R⟩
    replace hp : PtrAt bs (W0.heap.size + 1) W1 := u.get hp hbs.1
    replace U := U.trans u
    replace g := g.read u I
    clear u I
    have cx : IntKind.u32.wrap x = x := wrap32 px qx
    simp [go_sem, g0, g2, g3, g13, g14, g15, g.ask, cx]
    refine ⟨4, xs ++ [x], st1, rfl, by omega, by simp [hxs], RC.snoc R, by simp [go_sem, g0], by simp [go_sem, g2], by simp [go_sem, g3], by simp [go_sem, g13], by simp [go_sem, g14], by simp [go_sem, g15]; decide, g.set _ (by rw [crA_3 hxs]), ?_, U.setB _ _ (fun h => absurd h (by omega))⟩
    unfold PtrAt
    rw [heap_setB, if_neg hbs.2]
    exact hp
  · obtain ⟨x1, x2, x3, x4, rfl⟩ : ∃ a b c d, xs = [a, b, c, d] := by
      match xs, hxs with
      | [a, b, c, d], _ => exact ⟨a, b, c, d, rfl⟩
    obtain ⟨s1, R1, s2, R2, s3, R3, s4, R4, hs4⟩ := RC
    have hs4' : st1 = s4 := hs4
    subst hs4'
    have hcr : crA [x1, x2, x3, x4] = { zeroA with access := x1, sharing := x2, way := x3, options := x4 } := rfl
    rw [hcr] at g
    simp [go_sem, g0, g2, g3, g13, g14, g15]
    refine CallP.mono (fileN1 g.rd) ?_
    rintro v W1 ⟨x5, rfl, p5, q5, u, st5, I, R5⟩
    replace g := g.read u I
    replace U := U.trans u
    clear u I
    have c5 : IntKind.u8.wrap x5 = x5 := wrap8 p5 q5
    simp [go_sem, g0, g2, g3, g.ask, c5]
    refine gen_call ?_
    intro W2 hW2
    replace U : Upd (fun x => x = b) W0 W2 := by rw [hW2]; exact U.setB _ _ (fun h => absurd h (by omega))
    replace g := g.set _ hW2
    clear hW2
    refine CallP.mono (fileN1 g.rd) ?_
    rintro v W1 ⟨x6, rfl, p6, q6, u, st6, I, R6⟩
    replace g := g.read u I
    replace U := U.trans u
    clear u I
    have c6 : IntKind.u8.wrap x6 = x6 := wrap8 p6 q6
    simp [go_sem, g0, g2, g3, g.ask, c6]
    refine gen_call ?_
    intro W2 hW2
    replace U : Upd (fun x => x = b) W0 W2 := by rw [hW2]; exact U.setB _ _ (fun h => absurd h (by omega))
    replace g := g.set _ hW2
    clear hW2
    refine CallP.mono (fileSmall2 (m := 0) (e := 5) (by decide) g.rd) ?_
    rintro v W1 ⟨x7, rfl, p7, q7, u, st7, I, R7⟩
    replace g := g.read u I
    replace U := U.trans u
    clear u I
    simp [go_sem, g0, g2, g3, g.ask]
    refine CallP.mono (fileN8 g.rd) ?_
    rintro v W1 ⟨x8, rfl, p8, q8, u, st8, I, R8⟩
    replace g := g.read u I
    replace U := U.trans u
    clear u I
    simp [go_sem, g0, g2, g3, g.ask]
    refine gen_load ?_
    intro W2 hW2
    replace U : Upd (fun x => x = b) W0 W2 := by rw [hW2]; exact U.setB _ _ (fun h => absurd h (by omega))
    replace g := g.set _ hW2
    clear hW2
    have RR := fun (s : ByteArray) (st9 : Except Int (List UInt8)) (R9 : Rd textC st8 st9 s) => Rd.seq (D := fun _ => seqC (numC 4) fun _ => seqC (numC 4) fun _ => seqC (numC 4) fun _ => seqC (numC 1) fun _ => seqC (numC 1) fun _ => seqC (zeroC 2) fun _ => seqC (numC 8) fun _ => textC) R1 (Rd.seq (D := fun _ => seqC (numC 4) fun _ => seqC (numC 4) fun _ => seqC (numC 1) fun _ => seqC (numC 1) fun _ => seqC (zeroC 2) fun _ => seqC (numC 8) fun _ => textC) R2 (Rd.seq (D := fun _ => seqC (numC 4) fun _ => seqC (numC 1) fun _ => seqC (numC 1) fun _ => seqC (zeroC 2) fun _ => seqC (numC 8) fun _ => textC) R3 (Rd.seq (D := fun _ => seqC (numC 1) fun _ => seqC (numC 1) fun _ => seqC (zeroC 2) fun _ => seqC (numC 8) fun _ => textC) R4 (Rd.seq (D := fun _ => seqC (numC 1) fun _ => seqC (zeroC 2) fun _ => seqC (numC 8) fun _ => textC) R5 (Rd.seq (D := fun _ => seqC (zeroC 2) fun _ => seqC (numC 8) fun _ => textC) R6 (Rd.seq (D := fun _ => seqC (numC 8) fun _ => textC) (zero_of R7) (Rd.seq (D := fun _ => textC) R8 R9)))))))
    obtain ⟨a, e, hc, hst⟩ := g.rd.cell
    cases st8 with
    | error z =>
      obtain ⟨rfl, hz⟩ := hst
      simp [go_sem, g0, g2, g3, g.ask, g.res, hc, hz]
      have u3 : Upd (fun x => x = W0.heap.size) W2 (W2.setB W0.heap.size (.cells (AskV.cells { zeroA with access := x1, sharing := x2, way := x3, options := x4, level := x5, durable := x6, file := x8 }) 34 (0, 0))) := (Upd.refl _ _).setB _ _ (fun _ => rfl)
      exact ⟨.error e, (x1, x2, x3, x4, x5, x6, (), x8, ByteArray.empty), U.setB _ _ (fun h => absurd h (by omega)), g.rd.keep u3 (fun h => g.ne.2.1 h.symm) (fun i h => by subst h; exact g.ne.2.2.2.2), RR _ _ text_err, rfl⟩
    | ok r =>
      obtain ⟨rfl, n, rfl, hn, rfl⟩ := hst
      simp [go_sem, g0, g2, g3, g.ask, g.res, hc]
      refine draw_script [.pure 0, .pure 4, .still [1, 2, 3, 5, 6, 7], .one 8, .pure 9, .still [10, 11, 12, 13, 14], .pure 15] (by kernel_rfl) (by kernel_rfl) (by kernel_rfl) ?_
      simp [go_sem, g0, hc]
      have ud : Upd noB w W2.drew := g.rd.u.drew
      refine CallP.mono (getText_any (g.rd.bytes.keep0 ud) g.rd.len n hn) ?_
      rintro v W4 ⟨u3, hres⟩
      have u4 : Upd noB W2 W4 := (Upd.refl noB W2).drew.trans u3
      have hc4 := u4.get hc (fun h => h)
      have g4 := g.keep u4
      have U4 : Upd (fun x => x = b) W0 W4 := U.trans (u4.mono (fun _ _ h => h.elim))
      have hbn := g.ne.1
      have hrbb := g.ne.2.1
      cases ht : textGet l n with
      | error z =>
        rw [ht] at hres
        simp only [TextR] at hres
        subst hres
        have hz := textGet_err ht
        simp [go_sem, g0, g2, g3, g4.ask, g4.res, hc4, heap_setB, hbn, Ne.symm hbn, hrbb, Ne.symm hrbb]
        refine ⟨.error z, (x1, x2, x3, x4, x5, x6, (), x8, ByteArray.empty), ?_, ?_, RR _ _ (text_bad hn ht), rfl⟩
        · exact (((U4.setB _ _ (fun h => absurd h (by omega))).setB _ _ (fun _ => rfl)).setB _ _ (fun _ => rfl)).setB _ _ (fun h => absurd h (by omega))
        · exact (g4.fin (st' := .error z) (.cells (AskV.cells { zeroA with access := x1, sharing := x2, way := x3, options := x4, level := x5, durable := x6, file := x8 }) 34 (0, 0)) hc4 (a' := 0) (e' := z) ⟨rfl, hz⟩ _)
      | ok x =>
        obtain ⟨t, nx⟩ := x
        rw [ht] at hres
        simp only [TextR] at hres
        subst hres
        have hnx := textGet_len ht
        simp [go_sem, g0, g2, g3, g4.ask, g4.res, hc4, heap_setB, hbn, Ne.symm hbn, hrbb, Ne.symm hrbb]
        refine ⟨.ok (l.drop nx), (x1, x2, x3, x4, x5, x6, (), x8, strOf t), ?_, ?_, RR _ _ (text_full hn ht), rfl⟩
        · exact (((U4.setB _ _ (fun h => absurd h (by omega))).setB _ _ (fun _ => rfl)).setB _ _ (fun _ => rfl)).setB _ _ (fun h => absurd h (by omega))
        · exact (g4.fin (st' := .ok (l.drop nx)) (.cells (AskV.cells { zeroA with access := x1, sharing := x2, way := x3, options := x4, level := x5, durable := x6, file := x8, name := strOf t }) 34 (0, 0)) hc4 (a' := nx) (e' := 0) ⟨rfl, nx, rfl, hnx, rfl⟩ _)
set_option maxHeartbeats 2000000 in
theorem fileGetAsk5 {s : Value} {l : List UInt8} (hb : BytesAt w s l) (hl : l.length ≤ 1099511627776) : CallP Tryz.prog 85 #[.int .u16 5, s] w (fun r w' => Upd noB w w' ∧ AskRes w' w.heap.size r (askF5.get l)) := by
  obtain ⟨p, cap, rfl, hcap⟩ := hb.len
  refine call_den (args := [_, _]) Tryz.func85 rfl rfl (by simp [Tryz.ntmps85]) ?_
  simp [go_sem]
  refine CallP.mono (fileKnown_any _ _) ?_
  rintro r W ⟨rfl, hW⟩
  have hu : Upd noB w W := by rw [hW]; exact (by repeat (first | exact Upd.refl _ _ | refine Upd.alloc ?_ _ | refine Upd.drew ?_ | refine Upd.drewN ?_ _ | refine Upd.setB ?_ _ _ (fun h => absurd h (by omega))))
  have h0 : W.heap[w.heap.size]? = some (.cells zeroA.cells 34 (0, 0)) := by rw [hW, heap_alloc, if_pos rfl]
  clear hW
  simp [go_sem, known9]
  refine gen_call ?_
  intro W2 hW2
  have g := GS.start (T := 140) hb hl hu h0 hW2
  clear hW2 h0 hu
  generalize W.heap.size = b at *
  generalize w.heap.size = rb at *
  clear W
  revert W2
  intro W g
  refine CallP.mono (fileCreate_any g.rd) ?_
  rintro v W1 ⟨st1, x, u, I, R, rfl⟩
  replace g := g.read u I
  clear u I
  simp [go_sem, g.ask]
  refine gen_call ?_
  intro W2 hW2
  replace g := g.set _ hW2
  clear hW2
  refine CallP.mono (fileEnd g.rd) ?_
  have hne := g.rd.ne
  rintro v W1 ⟨rfl, u, stE, I⟩
  replace g := g.read u I
  clear u I
  have G := (askF5).of_rd (R) hne
  by_cases hf : finE (st1) = 0
  · rw [if_pos hf] at G
    simp [go_sem, hf, g.ask, g.res]
    exact ⟨g.rd.u.setB _ _ (fun h => absurd h (by have := g.ne; omega)), by rw [G]; exact ⟨_, rfl, rfl, nilW _ _, nil_own _ _, nilL _ _⟩⟩
  · rw [if_neg hf] at G
    simp [go_sem, hf, g.ask, g.res]
    exact ⟨g.rd.u.setB _ _ (fun h => absurd h (by have := g.ne; omega)), by rw [G]; rfl⟩
end Go.Proofs.YtinfdomlpbikaaaGreatDoor
namespace Go.Proofs.YtinfdomlpbikaaaGreatDoor
open Go.Eng Go.Lib
set_option linter.unusedSimpArgs false
set_option linter.unusedVariables false
set_option maxRecDepth 100000
variable {w w0 : World}
theorem talkKnown_any (c : Int) (h0 : 0 ≤ c) (w : World) : CallP Tryz.prog 147 #[.int .u16 c] w (fun r w' => r = .bool (known8 c) ∧ w' = w) := by
  by_cases h : c ≤ 4
  · rcases (by omega : c = 0 ∨ c = 1 ∨ c = 2 ∨ c = 3 ∨ c = 4) with rfl | rfl | rfl | rfl | rfl
    all_goals
      refine call_den (args := [_]) Tryz.func147 rfl rfl (by simp [Tryz.ntmps147]) ?_
      simp [go_sem, known8]
  · by_cases h13 : c = 13
    · refine call_den (args := [_]) Tryz.func147 rfl rfl (by simp [Tryz.ntmps147]) ?_
      simp [go_sem, known8, h13]
    · have h1 : ¬ c = 0 := by omega
      have h2 : ¬ c = 1 := by omega
      have h3 : ¬ c = 2 := by omega
      have h4 : ¬ c = 3 := by omega
      have h5 : ¬ c = 4 := by omega
      refine call_den (args := [_]) Tryz.func147 rfl rfl (by simp [Tryz.ntmps147]) ?_
      simp [go_sem, known8, h13, h1, h2, h3, h4, h5, h]
section
variable (s : Value) (a e : Int)
theorem rdC_tail (c : Array Value) (i : Nat) (v : Value) : (rdC s a e c.toList).setIfInBounds (i + 3) v = rdC s a e (c.setIfInBounds i v).toList := by
  apply Array.toList_inj.1
  rw [Array.toList_setIfInBounds]
  simp [rdC]
@[go_sem] theorem rdA52 (A : AskV) (x : ByteArray) : (rdC s a e A.cells.toList).setIfInBounds 52 (.string x) = rdC s a e (AskV.cells { A with user := x }).toList := by
  rw [show (52 : Nat) = 49 + 3 from rfl, rdC_tail, asks49]
@[go_sem] theorem rdA53 (A : AskV) (x : ByteArray) : (rdC s a e A.cells.toList).setIfInBounds 53 (.string x) = rdC s a e (AskV.cells { A with share := x }).toList := by
  rw [show (53 : Nat) = 50 + 3 from rfl, rdC_tail, asks50]
@[go_sem] theorem rdA3 (A : AskV) (q : Option Addr) (n c : Nat) : (rdC s a e A.cells.toList).setIfInBounds 3 (.slice q n c) = rdC s a e (AskV.cells { A with dialects := ⟨q, n, c⟩ }).toList := by
  rw [show (3 : Nat) = 0 + 3 from rfl, rdC_tail, asks0]
@[go_sem] theorem rdS3 (A : SayV) (z : Int) : (rdC s a e A.cells.toList).setIfInBounds 3 (.int .u16 z) = rdC s a e (SayV.cells { A with dialect := z }).toList := by
  rw [show (3 : Nat) = 0 + 3 from rfl, rdC_tail, says0]
@[go_sem] theorem rdS4 (A : SayV) (z : Int) : (rdC s a e A.cells.toList).setIfInBounds 4 (.int .u64 z) = rdC s a e (SayV.cells { A with size_ := z }).toList := by
  rw [show (4 : Nat) = 1 + 3 from rfl, rdC_tail, says1]
@[go_sem] theorem rdA_q3 (A : AskV) : (rdC s a e A.cells.toList)[3]? = some (.slice A.dialects.p A.dialects.n A.dialects.cap) := (rfl)
@[go_sem high] theorem rdA_cut (A : AskV) (t : TypeId) (f : Nat × Nat) : cutIn (some (.cells (rdC s a e A.cells.toList) t f)) 3 69 = some A.row := by
  have h := cut_part (r := [s, .int .i64 a, .int .i64 e] ++ (A.row ++ [])) (a := [s, .int .i64 a, .int .i64 e]) (b := A.row) (c := []) t f rfl
  rw [AskV.row_len, List.append_nil] at h
  exact h
@[go_sem high] theorem rdS_cut (A : SayV) (t : TypeId) (f : Nat × Nat) : cutIn (some (.cells (rdC s a e A.cells.toList) t f)) 3 20 = some A.row := by
  have h := cut_part (r := [s, .int .i64 a, .int .i64 e] ++ (A.row ++ [])) (a := [s, .int .i64 a, .int .i64 e]) (b := A.row) (c := []) t f rfl
  rw [SayV.row_len, List.append_nil] at h
  exact h
@[go_sem] theorem rdA_size (A : AskV) : A.cells.toList.length = 69 := A.row_len
@[go_sem] theorem rdS_size (A : SayV) : A.cells.toList.length = 20 := A.row_len
theorem splice {x b c : List Value} {o n : Nat} (hx : x.length = o) (hb : b.length = n) (y : List Value) (hy : y.length = n) : (x ++ (b ++ c)).take o ++ y ++ (x ++ (b ++ c)).drop (o + y.length) = x ++ (y ++ c) := by
  have e : o + y.length = x.length + b.length := by omega
  rw [List.take_left' hx, e, List.drop_append, List.drop_eq_nil_of_le (by omega), List.nil_append]
  have : x.length + b.length - x.length = b.length := by omega
  rw [this, List.drop_left' rfl, List.append_assoc]
theorem rdA_guid (A : AskV) (X : Arr 16) : ((rdC s a e A.cells.toList).toList.take 4 ++ X.1.map u8V ++ (rdC s a e A.cells.toList).toList.drop (4 + X.1.length)).toArray = rdC s a e (AskV.cells { A with guid := X }).toList := by
  have h := splice (x := [s, .int .i64 a, .int .i64 e, .slice A.dialects.p A.dialects.n A.dialects.cap]) (b := A.guid.1.map u8V) (c := A.row.drop 17) (o := 4) (n := 16) rfl (by rw [List.length_map, A.guid.2]) (X.1.map u8V) (by rw [List.length_map, X.2])
  have e1 : (rdC s a e A.cells.toList).toList = [s, .int .i64 a, .int .i64 e, .slice A.dialects.p A.dialects.n A.dialects.cap] ++ (A.guid.1.map u8V ++ A.row.drop 17) := by
    have : A.row = [.slice A.dialects.p A.dialects.n A.dialects.cap] ++ (A.guid.1.map u8V ++ A.row.drop 17) := by
      have h17 : A.row = ([.slice A.dialects.p A.dialects.n A.dialects.cap] ++ A.guid.1.map u8V) ++ A.row.drop 17 := by
        conv => lhs; rw [← List.take_append_drop 17 A.row]
        congr 1
        unfold AskV.row
        rw [← List.append_assoc, List.take_left' (by simp [A.guid.2])]
      rw [List.append_assoc] at h17
      exact h17
    show s :: .int .i64 a :: .int .i64 e :: A.row = _
    rw [this]
    simp [A.guid.2]
  rw [e1]
  rw [List.length_map] at h
  rw [h]
  have e2 : (AskV.row { A with guid := X }) = [.slice A.dialects.p A.dialects.n A.dialects.cap] ++ (X.1.map u8V ++ A.row.drop 17) := by
    have : A.row.drop 17 = A.proof.1.map u8V ++ ([.string A.user, .string A.share, .int .u32 A.access, .int .u32 A.sharing, .int .u32 A.way, .int .u32 A.options, .int .u8 A.level, .int .u8 A.durable, .int .u64 A.file, .string A.name, .int .u64 A.at_, .int .u32 A.n, .slice A.data.p A.data.n A.data.cap, .slice A.locks.p A.locks.n A.locks.cap, .int .u16 A.most, .string A.pattern, .string A.after, .int .u16 A.cls, .int .u64 A.size_, .bool A.on]) := by
      unfold AskV.row
      rw [← List.append_assoc, List.drop_left' (by simp [A.guid.2])]
    rw [this]
    rfl
  show _ = (s :: .int .i64 a :: .int .i64 e :: AskV.row { A with guid := X }).toArray
  rw [e2]
  rfl
theorem rdA_proof (A : AskV) (X : Arr 32) : ((rdC s a e A.cells.toList).toList.take 20 ++ X.1.map u8V ++ (rdC s a e A.cells.toList).toList.drop (20 + X.1.length)).toArray = rdC s a e (AskV.cells { A with proof := X }).toList := by
  have h := splice (x := [s, .int .i64 a, .int .i64 e, .slice A.dialects.p A.dialects.n A.dialects.cap] ++ A.guid.1.map u8V) (b := A.proof.1.map u8V) (c := [.string A.user, .string A.share, .int .u32 A.access, .int .u32 A.sharing, .int .u32 A.way, .int .u32 A.options, .int .u8 A.level, .int .u8 A.durable, .int .u64 A.file, .string A.name, .int .u64 A.at_, .int .u32 A.n, .slice A.data.p A.data.n A.data.cap, .slice A.locks.p A.locks.n A.locks.cap, .int .u16 A.most, .string A.pattern, .string A.after, .int .u16 A.cls, .int .u64 A.size_, .bool A.on]) (o := 20) (n := 32) (by simp [A.guid.2]) (by rw [List.length_map, A.proof.2]) (X.1.map u8V) (by rw [List.length_map, X.2])
  have e1 : (rdC s a e A.cells.toList).toList = ([s, .int .i64 a, .int .i64 e, .slice A.dialects.p A.dialects.n A.dialects.cap] ++ A.guid.1.map u8V) ++ (A.proof.1.map u8V ++ [.string A.user, .string A.share, .int .u32 A.access, .int .u32 A.sharing, .int .u32 A.way, .int .u32 A.options, .int .u8 A.level, .int .u8 A.durable, .int .u64 A.file, .string A.name, .int .u64 A.at_, .int .u32 A.n, .slice A.data.p A.data.n A.data.cap, .slice A.locks.p A.locks.n A.locks.cap, .int .u16 A.most, .string A.pattern, .string A.after, .int .u16 A.cls, .int .u64 A.size_, .bool A.on]) := by
    show s :: .int .i64 a :: .int .i64 e :: A.row = _
    unfold AskV.row
    simp only [List.append_assoc, List.cons_append, List.nil_append]
  rw [e1]
  rw [List.length_map] at h
  rw [h]
  show _ = (s :: .int .i64 a :: .int .i64 e :: AskV.row { A with proof := X }).toArray
  unfold AskV.row
  simp only [List.append_assoc, List.cons_append, List.nil_append]
theorem rdS_chal (A : SayV) (X : Arr 8) : ((rdC s a e A.cells.toList).toList.take 5 ++ X.1.map u8V ++ (rdC s a e A.cells.toList).toList.drop (5 + X.1.length)).toArray = rdC s a e (SayV.cells { A with challenge := X }).toList := by
  have h := splice (x := [s, .int .i64 a, .int .i64 e, .int .u16 A.dialect, .int .u64 A.size_]) (b := A.challenge.1.map u8V) (c := [.int .u8 A.level, .int .u8 A.durable, .int .u16 A.made, .int .u64 A.file, .int .u8 A.kind, .slice A.data.p A.data.n A.data.cap, .int .u32 A.n, .slice A.entries.p A.entries.n A.entries.cap, .bool A.more, .bool A.gone]) (o := 5) (n := 8) rfl (by rw [List.length_map, A.challenge.2]) (X.1.map u8V) (by rw [List.length_map, X.2])
  have e1 : (rdC s a e A.cells.toList).toList = [s, .int .i64 a, .int .i64 e, .int .u16 A.dialect, .int .u64 A.size_] ++ (A.challenge.1.map u8V ++ [.int .u8 A.level, .int .u8 A.durable, .int .u16 A.made, .int .u64 A.file, .int .u8 A.kind, .slice A.data.p A.data.n A.data.cap, .int .u32 A.n, .slice A.entries.p A.entries.n A.entries.cap, .bool A.more, .bool A.gone]) := by
    show s :: .int .i64 a :: .int .i64 e :: A.row = _
    unfold SayV.row
    simp only [List.append_assoc, List.cons_append, List.nil_append]
  rw [e1]
  rw [List.length_map] at h
  rw [h]
  show _ = (s :: .int .i64 a :: .int .i64 e :: SayV.row { A with challenge := X }).toArray
  unfold SayV.row
  simp only [List.append_assoc, List.cons_append, List.nil_append]
end
/-- nothing is copied -/
theorem K_copy_zero {g o n dCap cap : Nat} {q : Option Addr} (W : World) (k : Value → World → Prop) (ty : TypeId) :
    K_copy Tryz.prog #[31, 31] ty #[.slice (some ⟨g, o, none⟩) n dCap, .slice q 0 cap] W k = k (goInt 0) W := by
  refine K_copy_ok _ _ _ _ ?_
  cases q <;> simp [Builtin.copy_, run_underlying Tryz.underlying31, Builtin.lenOf, Tryz.sizeOf5, Builtin.firstCells, storeCells, loadCells, loadCellsFrom]
/-! ### while it is got -/
structure TAk (w W : World) (rb b : Nat) (p : Option Addr) (cap : Nat) (l : List UInt8) (st : Except Int (List UInt8)) (A : AskV) : Prop where
  rd : RdI w W b 161 p cap l A.cells.toList st
  res : W.heap[rb]? = some (.cells zeroA.cells 34 (0, 0))
  ne : rb ≠ b ∧ w.heap.size ≤ b ∧ w.heap.size ≤ rb
structure TSy (w W : World) (rb b : Nat) (p : Option Addr) (cap : Nat) (l : List UInt8) (st : Except Int (List UInt8)) (A : SayV) : Prop where
  rd : RdI w W b 164 p cap l A.cells.toList st
  res : W.heap[rb]? = some (.cells zeroS.cells 39 (0, 0))
  ne : rb ≠ b ∧ w.heap.size ≤ b ∧ w.heap.size ≤ rb
section
variable {W W' : World} {rb b : Nat} {p : Option Addr} {cap : Nat} {l : List UInt8} {st st' : Except Int (List UInt8)}
theorem TAk.read {A : AskV} (g : TAk w W rb b p cap l st A) (u : Upd (fun x => x = b) W W') (I : RdI w W' b 161 p cap l A.cells.toList st') : TAk w W' rb b p cap l st' A :=
  ⟨I, u.get g.res g.ne.1, g.ne⟩
theorem TAk.keep {A : AskV} (g : TAk w W rb b p cap l st A) (u : Upd noB W W') : TAk w W' rb b p cap l st A :=
  ⟨g.rd.keep u (fun h => h) (fun _ h => h.elim), u.get g.res (fun h => h), g.ne⟩
theorem TAk.set {A : AskV} {a e : Int} (g : TAk w W rb b p cap l st A) (A' : AskV) (hc : W.heap[b]? = some (.cells (rdC (.slice p l.length cap) a e A.cells.toList) 161 (0, 0))) (hst : StOk l a e st) (h : W' = W.setB b (.cells (rdC (.slice p l.length cap) a e A'.cells.toList) 161 (0, 0))) : TAk w W' rb b p cap l st A' := by
  subst h
  have u : Upd (fun x => x = b) W (W.setB b (.cells (rdC (.slice p l.length cap) a e A'.cells.toList) 161 (0, 0))) := (Upd.refl _ _).setB _ _ (fun _ => rfl)
  exact ⟨g.rd.set u (by rw [heap_setB, if_pos rfl, hc]; rfl) hst, u.get g.res g.ne.1, g.ne⟩
theorem TAk.start {W2 : World} {X : Array Value} (hb : BytesAt w (.slice p l.length cap) l) (hl : l.length ≤ 1099511627776) (hu : Upd noB w W) (h0 : W.heap[w.heap.size]? = some (.cells zeroA.cells 34 (0, 0)))
    (h : W2 = W.alloc (.cells X 161)) (hX : X = rdC (.slice p l.length cap) 0 0 zeroA.cells.toList) : TAk w W2 w.heap.size W.heap.size p cap l (.ok l) zeroA := by
  have hs := (Array.getElem?_eq_some_iff.1 h0).1
  subst h
  refine ⟨⟨hu.alloc _, hu.size, hb, hl, 0, 0, ?_, rfl, 0, rfl, Nat.zero_le _, rfl⟩, ?_, by omega, by omega, by omega⟩
  · rw [heap_alloc, if_pos rfl, hX]
  · rw [heap_alloc, if_neg (by omega), h0]
theorem TAk.lt {A : AskV} (g : TAk w W rb b p cap l st A) : b < W.heap.size ∧ rb < W.heap.size ∧ w.heap.size ≤ W.heap.size := by
  obtain ⟨a, e, h, _⟩ := g.rd.cell
  exact ⟨(Array.getElem?_eq_some_iff.1 h).1, (Array.getElem?_eq_some_iff.1 g.res).1, g.rd.u.size⟩
theorem TAk.keepN {A : AskV} {n0 : Nat} (g : TAk w W rb b p cap l st A) (lt : b < n0 ∧ rb < n0 ∧ w.heap.size ≤ n0) (u : Upd (fun i => n0 ≤ i) W W') : TAk w W' rb b p cap l st A :=
  ⟨g.rd.keep u (by omega) (fun i h => by omega), u.get g.res (by omega), g.ne⟩
theorem TSy.read {A : SayV} (g : TSy w W rb b p cap l st A) (u : Upd (fun x => x = b) W W') (I : RdI w W' b 164 p cap l A.cells.toList st') : TSy w W' rb b p cap l st' A :=
  ⟨I, u.get g.res g.ne.1, g.ne⟩
theorem TSy.keep {A : SayV} (g : TSy w W rb b p cap l st A) (u : Upd noB W W') : TSy w W' rb b p cap l st A :=
  ⟨g.rd.keep u (fun h => h) (fun _ h => h.elim), u.get g.res (fun h => h), g.ne⟩
theorem TSy.set {A : SayV} {a e : Int} (g : TSy w W rb b p cap l st A) (A' : SayV) (hc : W.heap[b]? = some (.cells (rdC (.slice p l.length cap) a e A.cells.toList) 164 (0, 0))) (hst : StOk l a e st) (h : W' = W.setB b (.cells (rdC (.slice p l.length cap) a e A'.cells.toList) 164 (0, 0))) : TSy w W' rb b p cap l st A' := by
  subst h
  have u : Upd (fun x => x = b) W (W.setB b (.cells (rdC (.slice p l.length cap) a e A'.cells.toList) 164 (0, 0))) := (Upd.refl _ _).setB _ _ (fun _ => rfl)
  exact ⟨g.rd.set u (by rw [heap_setB, if_pos rfl, hc]; rfl) hst, u.get g.res g.ne.1, g.ne⟩
theorem TSy.start {W2 : World} {X : Array Value} (hb : BytesAt w (.slice p l.length cap) l) (hl : l.length ≤ 1099511627776) (hu : Upd noB w W) (h0 : W.heap[w.heap.size]? = some (.cells zeroS.cells 39 (0, 0)))
    (h : W2 = W.alloc (.cells X 164)) (hX : X = rdC (.slice p l.length cap) 0 0 zeroS.cells.toList) : TSy w W2 w.heap.size W.heap.size p cap l (.ok l) zeroS := by
  have hs := (Array.getElem?_eq_some_iff.1 h0).1
  subst h
  refine ⟨⟨hu.alloc _, hu.size, hb, hl, 0, 0, ?_, rfl, 0, rfl, Nat.zero_le _, rfl⟩, ?_, by omega, by omega, by omega⟩
  · rw [heap_alloc, if_pos rfl, hX]
  · rw [heap_alloc, if_neg (by omega), h0]
theorem TSy.lt {A : SayV} (g : TSy w W rb b p cap l st A) : b < W.heap.size ∧ rb < W.heap.size ∧ w.heap.size ≤ W.heap.size := by
  obtain ⟨a, e, h, _⟩ := g.rd.cell
  exact ⟨(Array.getElem?_eq_some_iff.1 h).1, (Array.getElem?_eq_some_iff.1 g.res).1, g.rd.u.size⟩
theorem TSy.keepN {A : SayV} {n0 : Nat} (g : TSy w W rb b p cap l st A) (lt : b < n0 ∧ rb < n0 ∧ w.heap.size ≤ n0) (u : Upd (fun i => n0 ≤ i) W W') : TSy w W' rb b p cap l st A :=
  ⟨g.rd.keep u (by omega) (fun i h => by omega), u.get g.res (by omega), g.ne⟩
end
theorem talkGetAsk2 {s : Value} {l : List UInt8} (hb : BytesAt w s l) (hl : l.length ≤ 1099511627776) : CallP Tryz.prog 93 #[.int .u16 2, s] w (fun r w' => Upd noB w w' ∧ AskRes w' w.heap.size r (askFz.get l)) := by
  obtain ⟨p, cap, rfl, hcap⟩ := hb.len
  refine call_den (args := [_, _]) Tryz.func93 rfl rfl (by simp [Tryz.ntmps93]) ?_
  simp [go_sem]
  refine CallP.mono (talkKnown_any _ (by decide) _) ?_
  rintro r W ⟨rfl, hW⟩
  have hu : Upd noB w W := by rw [hW]; exact (by repeat (first | exact Upd.refl _ _ | refine Upd.alloc ?_ _ | refine Upd.drew ?_ | refine Upd.drewN ?_ _ | refine Upd.setB ?_ _ _ (fun h => absurd h (by omega))))
  have h0 : W.heap[w.heap.size]? = some (.cells zeroA.cells 34 (0, 0)) := by rw [hW, heap_alloc, if_pos rfl]
  clear hW
  simp [go_sem, known8]
  refine gen_call ?_
  intro W2 hW2
  have g := TAk.start hb hl hu h0 hW2 rfl
  clear hW2 h0 hu
  generalize W.heap.size = b at *
  generalize w.heap.size = rb at *
  clear W
  revert W2
  intro W g
  refine CallP.mono (talkZero (k := 4) (by decide) g.rd) ?_
  rintro v W1 ⟨u, st1, I, R1⟩
  replace g := g.read u I
  clear u I
  simp [go_sem]
  refine CallP.mono (talkEnd g.rd) ?_
  have hne := g.rd.ne
  rintro v W1 ⟨rfl, u, stE, I⟩
  replace g := g.read u I
  clear u I
  have G := (askFz).of_rd (R1) hne
  obtain ⟨a, e, hc, hst⟩ := g.rd.cell
  by_cases hf : finE (st1) = 0
  · rw [if_pos hf] at G
    simp [go_sem, hf, hc, g.res]
    exact ⟨g.rd.u.setB _ _ (fun h => absurd h (by have := g.ne; omega)), by rw [G]; exact ⟨_, rfl, rfl, nilW _ _, nil_own _ _, nilL _ _⟩⟩
  · rw [if_neg hf] at G
    simp [go_sem, hf, g.res]
    exact ⟨g.rd.u.setB _ _ (fun h => absurd h (by have := g.ne; omega)), by rw [G]; rfl⟩
theorem talkGetAsk4 {s : Value} {l : List UInt8} (hb : BytesAt w s l) (hl : l.length ≤ 1099511627776) : CallP Tryz.prog 93 #[.int .u16 4, s] w (fun r w' => Upd noB w w' ∧ AskRes w' w.heap.size r (askFz.get l)) := by
  obtain ⟨p, cap, rfl, hcap⟩ := hb.len
  refine call_den (args := [_, _]) Tryz.func93 rfl rfl (by simp [Tryz.ntmps93]) ?_
  simp [go_sem]
  refine CallP.mono (talkKnown_any _ (by decide) _) ?_
  rintro r W ⟨rfl, hW⟩
  have hu : Upd noB w W := by rw [hW]; exact (by repeat (first | exact Upd.refl _ _ | refine Upd.alloc ?_ _ | refine Upd.drew ?_ | refine Upd.drewN ?_ _ | refine Upd.setB ?_ _ _ (fun h => absurd h (by omega))))
  have h0 : W.heap[w.heap.size]? = some (.cells zeroA.cells 34 (0, 0)) := by rw [hW, heap_alloc, if_pos rfl]
  clear hW
  simp [go_sem, known8]
  refine gen_call ?_
  intro W2 hW2
  have g := TAk.start hb hl hu h0 hW2 rfl
  clear hW2 h0 hu
  generalize W.heap.size = b at *
  generalize w.heap.size = rb at *
  clear W
  revert W2
  intro W g
  refine CallP.mono (talkZero (k := 4) (by decide) g.rd) ?_
  rintro v W1 ⟨u, st1, I, R1⟩
  replace g := g.read u I
  clear u I
  simp [go_sem]
  refine CallP.mono (talkEnd g.rd) ?_
  have hne := g.rd.ne
  rintro v W1 ⟨rfl, u, stE, I⟩
  replace g := g.read u I
  clear u I
  have G := (askFz).of_rd (R1) hne
  obtain ⟨a, e, hc, hst⟩ := g.rd.cell
  by_cases hf : finE (st1) = 0
  · rw [if_pos hf] at G
    simp [go_sem, hf, hc, g.res]
    exact ⟨g.rd.u.setB _ _ (fun h => absurd h (by have := g.ne; omega)), by rw [G]; exact ⟨_, rfl, rfl, nilW _ _, nil_own _ _, nilL _ _⟩⟩
  · rw [if_neg hf] at G
    simp [go_sem, hf, g.res]
    exact ⟨g.rd.u.setB _ _ (fun h => absurd h (by have := g.ne; omega)), by rw [G]; rfl⟩
theorem talkGetAsk13 {s : Value} {l : List UInt8} (hb : BytesAt w s l) (hl : l.length ≤ 1099511627776) : CallP Tryz.prog 93 #[.int .u16 13, s] w (fun r w' => Upd noB w w' ∧ AskRes w' w.heap.size r (askFz.get l)) := by
  obtain ⟨p, cap, rfl, hcap⟩ := hb.len
  refine call_den (args := [_, _]) Tryz.func93 rfl rfl (by simp [Tryz.ntmps93]) ?_
  simp [go_sem]
  refine CallP.mono (talkKnown_any _ (by decide) _) ?_
  rintro r W ⟨rfl, hW⟩
  have hu : Upd noB w W := by rw [hW]; exact (by repeat (first | exact Upd.refl _ _ | refine Upd.alloc ?_ _ | refine Upd.drew ?_ | refine Upd.drewN ?_ _ | refine Upd.setB ?_ _ _ (fun h => absurd h (by omega))))
  have h0 : W.heap[w.heap.size]? = some (.cells zeroA.cells 34 (0, 0)) := by rw [hW, heap_alloc, if_pos rfl]
  clear hW
  simp [go_sem, known8]
  refine gen_call ?_
  intro W2 hW2
  have g := TAk.start hb hl hu h0 hW2 rfl
  clear hW2 h0 hu
  generalize W.heap.size = b at *
  generalize w.heap.size = rb at *
  clear W
  revert W2
  intro W g
  refine CallP.mono (talkZero (k := 4) (by decide) g.rd) ?_
  rintro v W1 ⟨u, st1, I, R1⟩
  replace g := g.read u I
  clear u I
  simp [go_sem]
  refine CallP.mono (talkEnd g.rd) ?_
  have hne := g.rd.ne
  rintro v W1 ⟨rfl, u, stE, I⟩
  replace g := g.read u I
  clear u I
  have G := (askFz).of_rd (R1) hne
  obtain ⟨a, e, hc, hst⟩ := g.rd.cell
  by_cases hf : finE (st1) = 0
  · rw [if_pos hf] at G
    simp [go_sem, hf, hc, g.res]
    exact ⟨g.rd.u.setB _ _ (fun h => absurd h (by have := g.ne; omega)), by rw [G]; exact ⟨_, rfl, rfl, nilW _ _, nil_own _ _, nilL _ _⟩⟩
  · rw [if_neg hf] at G
    simp [go_sem, hf, g.res]
    exact ⟨g.rd.u.setB _ _ (fun h => absurd h (by have := g.ne; omega)), by rw [G]; rfl⟩
theorem talkGetSay1 {s : Value} {l : List UInt8} (hb : BytesAt w s l) (hl : l.length ≤ 1099511627776) : CallP Tryz.prog 95 #[.int .u16 1, s] w (fun r w' => Upd noB w w' ∧ SayRes w' w.heap.size r (sayFz.get l)) := by
  obtain ⟨p, cap, rfl, hcap⟩ := hb.len
  refine call_den (args := [_, _]) Tryz.func95 rfl rfl (by simp [Tryz.ntmps95]) ?_
  simp [go_sem]
  refine CallP.mono (talkKnown_any _ (by decide) _) ?_
  rintro r W ⟨rfl, hW⟩
  have hu : Upd noB w W := by rw [hW]; exact (by repeat (first | exact Upd.refl _ _ | refine Upd.alloc ?_ _ | refine Upd.drew ?_ | refine Upd.drewN ?_ _ | refine Upd.setB ?_ _ _ (fun h => absurd h (by omega))))
  have h0 : W.heap[w.heap.size]? = some (.cells zeroS.cells 39 (0, 0)) := by rw [hW, heap_alloc, if_pos rfl]
  clear hW
  simp [go_sem, known8]
  refine gen_call ?_
  intro W2 hW2
  have g := TSy.start hb hl hu h0 hW2 rfl
  clear hW2 h0 hu
  generalize W.heap.size = b at *
  generalize w.heap.size = rb at *
  clear W
  revert W2
  intro W g
  refine CallP.mono (talkZero (k := 4) (by decide) g.rd) ?_
  rintro v W1 ⟨u, st1, I, R1⟩
  replace g := g.read u I
  clear u I
  simp [go_sem]
  refine CallP.mono (talkEnd g.rd) ?_
  have hne := g.rd.ne
  rintro v W1 ⟨rfl, u, stE, I⟩
  replace g := g.read u I
  clear u I
  have G := (sayFz).of_rd (R1) hne
  obtain ⟨a, e, hc, hst⟩ := g.rd.cell
  by_cases hf : finE (st1) = 0
  · rw [if_pos hf] at G
    simp [go_sem, hf, hc, g.res]
    exact ⟨g.rd.u.setB _ _ (fun h => absurd h (by have := g.ne; omega)), by rw [G]; exact ⟨_, rfl, rfl, nil_own _ _, nilE _ _⟩⟩
  · rw [if_neg hf] at G
    simp [go_sem, hf, g.res]
    exact ⟨g.rd.u.setB _ _ (fun h => absurd h (by have := g.ne; omega)), by rw [G]; rfl⟩
theorem talkGetSay2 {s : Value} {l : List UInt8} (hb : BytesAt w s l) (hl : l.length ≤ 1099511627776) : CallP Tryz.prog 95 #[.int .u16 2, s] w (fun r w' => Upd noB w w' ∧ SayRes w' w.heap.size r (sayFz.get l)) := by
  obtain ⟨p, cap, rfl, hcap⟩ := hb.len
  refine call_den (args := [_, _]) Tryz.func95 rfl rfl (by simp [Tryz.ntmps95]) ?_
  simp [go_sem]
  refine CallP.mono (talkKnown_any _ (by decide) _) ?_
  rintro r W ⟨rfl, hW⟩
  have hu : Upd noB w W := by rw [hW]; exact (by repeat (first | exact Upd.refl _ _ | refine Upd.alloc ?_ _ | refine Upd.drew ?_ | refine Upd.drewN ?_ _ | refine Upd.setB ?_ _ _ (fun h => absurd h (by omega))))
  have h0 : W.heap[w.heap.size]? = some (.cells zeroS.cells 39 (0, 0)) := by rw [hW, heap_alloc, if_pos rfl]
  clear hW
  simp [go_sem, known8]
  refine gen_call ?_
  intro W2 hW2
  have g := TSy.start hb hl hu h0 hW2 rfl
  clear hW2 h0 hu
  generalize W.heap.size = b at *
  generalize w.heap.size = rb at *
  clear W
  revert W2
  intro W g
  refine CallP.mono (talkZero (k := 4) (by decide) g.rd) ?_
  rintro v W1 ⟨u, st1, I, R1⟩
  replace g := g.read u I
  clear u I
  simp [go_sem]
  refine CallP.mono (talkEnd g.rd) ?_
  have hne := g.rd.ne
  rintro v W1 ⟨rfl, u, stE, I⟩
  replace g := g.read u I
  clear u I
  have G := (sayFz).of_rd (R1) hne
  obtain ⟨a, e, hc, hst⟩ := g.rd.cell
  by_cases hf : finE (st1) = 0
  · rw [if_pos hf] at G
    simp [go_sem, hf, hc, g.res]
    exact ⟨g.rd.u.setB _ _ (fun h => absurd h (by have := g.ne; omega)), by rw [G]; exact ⟨_, rfl, rfl, nil_own _ _, nilE _ _⟩⟩
  · rw [if_neg hf] at G
    simp [go_sem, hf, g.res]
    exact ⟨g.rd.u.setB _ _ (fun h => absurd h (by have := g.ne; omega)), by rw [G]; rfl⟩
theorem talkGetSay3 {s : Value} {l : List UInt8} (hb : BytesAt w s l) (hl : l.length ≤ 1099511627776) : CallP Tryz.prog 95 #[.int .u16 3, s] w (fun r w' => Upd noB w w' ∧ SayRes w' w.heap.size r (sayFz.get l)) := by
  obtain ⟨p, cap, rfl, hcap⟩ := hb.len
  refine call_den (args := [_, _]) Tryz.func95 rfl rfl (by simp [Tryz.ntmps95]) ?_
  simp [go_sem]
  refine CallP.mono (talkKnown_any _ (by decide) _) ?_
  rintro r W ⟨rfl, hW⟩
  have hu : Upd noB w W := by rw [hW]; exact (by repeat (first | exact Upd.refl _ _ | refine Upd.alloc ?_ _ | refine Upd.drew ?_ | refine Upd.drewN ?_ _ | refine Upd.setB ?_ _ _ (fun h => absurd h (by omega))))
  have h0 : W.heap[w.heap.size]? = some (.cells zeroS.cells 39 (0, 0)) := by rw [hW, heap_alloc, if_pos rfl]
  clear hW
  simp [go_sem, known8]
  refine gen_call ?_
  intro W2 hW2
  have g := TSy.start hb hl hu h0 hW2 rfl
  clear hW2 h0 hu
  generalize W.heap.size = b at *
  generalize w.heap.size = rb at *
  clear W
  revert W2
  intro W g
  refine CallP.mono (talkZero (k := 4) (by decide) g.rd) ?_
  rintro v W1 ⟨u, st1, I, R1⟩
  replace g := g.read u I
  clear u I
  simp [go_sem]
  refine CallP.mono (talkEnd g.rd) ?_
  have hne := g.rd.ne
  rintro v W1 ⟨rfl, u, stE, I⟩
  replace g := g.read u I
  clear u I
  have G := (sayFz).of_rd (R1) hne
  obtain ⟨a, e, hc, hst⟩ := g.rd.cell
  by_cases hf : finE (st1) = 0
  · rw [if_pos hf] at G
    simp [go_sem, hf, hc, g.res]
    exact ⟨g.rd.u.setB _ _ (fun h => absurd h (by have := g.ne; omega)), by rw [G]; exact ⟨_, rfl, rfl, nil_own _ _, nilE _ _⟩⟩
  · rw [if_neg hf] at G
    simp [go_sem, hf, g.res]
    exact ⟨g.rd.u.setB _ _ (fun h => absurd h (by have := g.ne; omega)), by rw [G]; rfl⟩
theorem talkGetSay4 {s : Value} {l : List UInt8} (hb : BytesAt w s l) (hl : l.length ≤ 1099511627776) : CallP Tryz.prog 95 #[.int .u16 4, s] w (fun r w' => Upd noB w w' ∧ SayRes w' w.heap.size r (sayFz.get l)) := by
  obtain ⟨p, cap, rfl, hcap⟩ := hb.len
  refine call_den (args := [_, _]) Tryz.func95 rfl rfl (by simp [Tryz.ntmps95]) ?_
  simp [go_sem]
  refine CallP.mono (talkKnown_any _ (by decide) _) ?_
  rintro r W ⟨rfl, hW⟩
  have hu : Upd noB w W := by rw [hW]; exact (by repeat (first | exact Upd.refl _ _ | refine Upd.alloc ?_ _ | refine Upd.drew ?_ | refine Upd.drewN ?_ _ | refine Upd.setB ?_ _ _ (fun h => absurd h (by omega))))
  have h0 : W.heap[w.heap.size]? = some (.cells zeroS.cells 39 (0, 0)) := by rw [hW, heap_alloc, if_pos rfl]
  clear hW
  simp [go_sem, known8]
  refine gen_call ?_
  intro W2 hW2
  have g := TSy.start hb hl hu h0 hW2 rfl
  clear hW2 h0 hu
  generalize W.heap.size = b at *
  generalize w.heap.size = rb at *
  clear W
  revert W2
  intro W g
  refine CallP.mono (talkZero (k := 4) (by decide) g.rd) ?_
  rintro v W1 ⟨u, st1, I, R1⟩
  replace g := g.read u I
  clear u I
  simp [go_sem]
  refine CallP.mono (talkEnd g.rd) ?_
  have hne := g.rd.ne
  rintro v W1 ⟨rfl, u, stE, I⟩
  replace g := g.read u I
  clear u I
  have G := (sayFz).of_rd (R1) hne
  obtain ⟨a, e, hc, hst⟩ := g.rd.cell
  by_cases hf : finE (st1) = 0
  · rw [if_pos hf] at G
    simp [go_sem, hf, hc, g.res]
    exact ⟨g.rd.u.setB _ _ (fun h => absurd h (by have := g.ne; omega)), by rw [G]; exact ⟨_, rfl, rfl, nil_own _ _, nilE _ _⟩⟩
  · rw [if_neg hf] at G
    simp [go_sem, hf, g.res]
    exact ⟨g.rd.u.setB _ _ (fun h => absurd h (by have := g.ne; omega)), by rw [G]; rfl⟩
theorem talkGetSay13 {s : Value} {l : List UInt8} (hb : BytesAt w s l) (hl : l.length ≤ 1099511627776) : CallP Tryz.prog 95 #[.int .u16 13, s] w (fun r w' => Upd noB w w' ∧ SayRes w' w.heap.size r (sayFz.get l)) := by
  obtain ⟨p, cap, rfl, hcap⟩ := hb.len
  refine call_den (args := [_, _]) Tryz.func95 rfl rfl (by simp [Tryz.ntmps95]) ?_
  simp [go_sem]
  refine CallP.mono (talkKnown_any _ (by decide) _) ?_
  rintro r W ⟨rfl, hW⟩
  have hu : Upd noB w W := by rw [hW]; exact (by repeat (first | exact Upd.refl _ _ | refine Upd.alloc ?_ _ | refine Upd.drew ?_ | refine Upd.drewN ?_ _ | refine Upd.setB ?_ _ _ (fun h => absurd h (by omega))))
  have h0 : W.heap[w.heap.size]? = some (.cells zeroS.cells 39 (0, 0)) := by rw [hW, heap_alloc, if_pos rfl]
  clear hW
  simp [go_sem, known8]
  refine gen_call ?_
  intro W2 hW2
  have g := TSy.start hb hl hu h0 hW2 rfl
  clear hW2 h0 hu
  generalize W.heap.size = b at *
  generalize w.heap.size = rb at *
  clear W
  revert W2
  intro W g
  refine CallP.mono (talkZero (k := 4) (by decide) g.rd) ?_
  rintro v W1 ⟨u, st1, I, R1⟩
  replace g := g.read u I
  clear u I
  simp [go_sem]
  refine CallP.mono (talkEnd g.rd) ?_
  have hne := g.rd.ne
  rintro v W1 ⟨rfl, u, stE, I⟩
  replace g := g.read u I
  clear u I
  have G := (sayFz).of_rd (R1) hne
  obtain ⟨a, e, hc, hst⟩ := g.rd.cell
  by_cases hf : finE (st1) = 0
  · rw [if_pos hf] at G
    simp [go_sem, hf, hc, g.res]
    exact ⟨g.rd.u.setB _ _ (fun h => absurd h (by have := g.ne; omega)), by rw [G]; exact ⟨_, rfl, rfl, nil_own _ _, nilE _ _⟩⟩
  · rw [if_neg hf] at G
    simp [go_sem, hf, g.res]
    exact ⟨g.rd.u.setB _ _ (fun h => absurd h (by have := g.ne; omega)), by rw [G]; rfl⟩
theorem talkGetAsk3 {s : Value} {l : List UInt8} (hb : BytesAt w s l) (hl : l.length ≤ 1099511627776) : CallP Tryz.prog 93 #[.int .u16 3, s] w (fun r w' => Upd noB w w' ∧ AskRes w' w.heap.size r (askF3.get l)) := by
  obtain ⟨p, cap, rfl, hcap⟩ := hb.len
  refine call_den (args := [_, _]) Tryz.func93 rfl rfl (by simp [Tryz.ntmps93]) ?_
  simp [go_sem]
  refine CallP.mono (talkKnown_any _ (by decide) _) ?_
  rintro r W ⟨rfl, hW⟩
  have hu : Upd noB w W := by rw [hW]; exact (by repeat (first | exact Upd.refl _ _ | refine Upd.alloc ?_ _ | refine Upd.drew ?_ | refine Upd.drewN ?_ _ | refine Upd.setB ?_ _ _ (fun h => absurd h (by omega))))
  have h0 : W.heap[w.heap.size]? = some (.cells zeroA.cells 34 (0, 0)) := by rw [hW, heap_alloc, if_pos rfl]
  clear hW
  simp [go_sem, known8]
  refine gen_call ?_
  intro W2 hW2
  have g := TAk.start hb hl hu h0 hW2 rfl
  clear hW2 h0 hu
  generalize W.heap.size = b at *
  generalize w.heap.size = rb at *
  clear W
  revert W2
  intro W g
  refine CallP.mono (talkText g.rd) ?_
  rintro v W1 ⟨x1, rfl, u, st1, I, R1⟩
  replace g := g.read u I
  clear u I
  obtain ⟨a, e, hc, hst⟩ := g.rd.cell
  simp [go_sem, hc]
  refine gen_call ?_
  intro W2 hW2
  replace g := g.set _ hc hst hW2
  clear hW2 hc hst
  refine CallP.mono (talkEnd g.rd) ?_
  have hne := g.rd.ne
  rintro v W1 ⟨rfl, u, stE, I⟩
  replace g := g.read u I
  clear u I
  have G := (askF3).of_rd (R1) hne
  obtain ⟨a, e, hc, hst⟩ := g.rd.cell
  by_cases hf : finE (st1) = 0
  · rw [if_pos hf] at G
    simp [go_sem, hf, hc, g.res]
    exact ⟨g.rd.u.setB _ _ (fun h => absurd h (by have := g.ne; omega)), by rw [G]; exact ⟨_, rfl, rfl, nilW _ _, nil_own _ _, nilL _ _⟩⟩
  · rw [if_neg hf] at G
    simp [go_sem, hf, g.res]
    exact ⟨g.rd.u.setB _ _ (fun h => absurd h (by have := g.ne; omega)), by rw [G]; rfl⟩
end Go.Proofs.YtinfdomlpbikaaaGreatDoor
namespace Go.Proofs.YtinfdomlpbikaaaGreatDoor
open Go.Eng Go.Lib
set_option linter.unusedSimpArgs false
set_option linter.unusedVariables false
set_option maxRecDepth 100000
variable {w w0 : World}
def TrueS (W : World) : Prop := True
set_option maxHeartbeats 2000000 in
theorem talkGetAsk1 {s : Value} {l : List UInt8} (hb : BytesAt w s l) (hl : l.length ≤ 1099511627776) : CallP Tryz.prog 93 #[.int .u16 1, s] w (fun r w' => Upd noB w w' ∧ AskRes w' w.heap.size r (askF1.get l)) := by
  obtain ⟨p, cap, rfl, hcap⟩ := hb.len
  refine call_den (args := [_, _]) Tryz.func93 rfl rfl (by simp [Tryz.ntmps93]) ?_
  simp [go_sem]
  refine CallP.mono (talkKnown_any _ (by decide) _) ?_
  rintro r W ⟨rfl, hW⟩
  have hu : Upd noB w W := by rw [hW]; exact (by repeat (first | exact Upd.refl _ _ | refine Upd.alloc ?_ _ | refine Upd.drew ?_ | refine Upd.drewN ?_ _ | refine Upd.setB ?_ _ _ (fun h => absurd h (by omega))))
  have h0 : W.heap[w.heap.size]? = some (.cells zeroA.cells 34 (0, 0)) := by rw [hW, heap_alloc, if_pos rfl]
  clear hW
  simp [go_sem, known8]
  refine gen_draw ?_
  intro W2 hW2
  have g := TAk.start hb hl hu h0 hW2 rfl
  clear hW2 h0 hu
  generalize W.heap.size = b at *
  generalize w.heap.size = rb at *
  clear W
  revert W2
  intro W g
  refine draw_script [.pure 0, .pure 5, .held [1, 2, 3, 4, 6, 7] 8, .one 9] (by kernel_rfl) (by kernel_rfl) (by kernel_rfl) ?_
  simp [go_sem]
  haveI : Nonempty { W : World // TrueS W } := ⟨⟨W, trivial⟩⟩
  refine opsPh_held _ _ TrueS trivial ?_
  simp [go_sem]
  replace g := g.keep (Upd.refl noB _).drew
  refine CallP.mono (talkPart (k := 32) (by decide) g.rd) ?_
  rintro v W1 ⟨B, ownB, hL', u, st1, I, R1⟩
  replace g := g.read u I
  clear u I
  obtain ⟨pd, cd, rfl, hcd⟩ := ownB.at.len
  have hL := bytes_len R1 hL'
  obtain ⟨a, e, hc, hst⟩ := g.rd.cell
  refine ⟨trivial, ?_⟩
  simp [go_sem]
  rcases hL with rfl | hL
  · simp [go_sem, K_copy_zero]
    have RA : Rd (arrC 32) (.ok l) st1 (zArr 32) := arr_of R1 (fun h => by simp at h)
    refine CallP.mono (talkText g.rd) ?_
    rintro v W1 ⟨x2, rfl, u, st2, I, R2⟩
    replace g := g.read u I
    clear u I
    obtain ⟨a, e, hc, hst⟩ := g.rd.cell
    simp [go_sem, hc]
    refine gen_call ?_
    intro W2 hW2
    replace g := g.set _ hc hst hW2
    clear hW2 hc hst
    refine CallP.mono (talkEnd g.rd) ?_
    have hne := g.rd.ne
    rintro v W1 ⟨rfl, u, stE, I⟩
    replace g := g.read u I
    clear u I
    have G := (askF1).of_rd (Rd.seq (D := fun _ => textC) RA R2) hne
    obtain ⟨a, e, hc, hst⟩ := g.rd.cell
    by_cases hf : finE (st2) = 0
    · rw [if_pos hf] at G
      simp [go_sem, hf, hc, g.res]
      exact ⟨g.rd.u.setB _ _ (fun h => absurd h (by have := g.ne; omega)), by rw [G]; exact ⟨_, rfl, rfl, nilW _ _, nil_own _ _, nilL _ _⟩⟩
    · rw [if_neg hf] at G
      simp [go_sem, hf, g.res]
      exact ⟨g.rd.u.setB _ _ (fun h => absurd h (by have := g.ne; omega)), by rw [G]; rfl⟩
  · rw [K_copy_bytes (l := B) ownB.at (by omega) hc (by rw [rdC_size, rdA_size]; omega) hL.symm, rdA_proof _ _ _ _ ⟨B, hL⟩]
    have RA : Rd (arrC 32) (.ok l) st1 ⟨B, hL⟩ := arr_of R1 (fun h => rfl)
    simp [go_sem]
    refine gen_call ?_
    intro W2 hW2
    replace g := g.set _ hc hst hW2
    clear hW2 hc hst
    refine CallP.mono (talkText g.rd) ?_
    rintro v W1 ⟨x2, rfl, u, st2, I, R2⟩
    replace g := g.read u I
    clear u I
    obtain ⟨a, e, hc, hst⟩ := g.rd.cell
    simp [go_sem, hc]
    refine gen_call ?_
    intro W2 hW2
    replace g := g.set _ hc hst hW2
    clear hW2 hc hst
    refine CallP.mono (talkEnd g.rd) ?_
    have hne := g.rd.ne
    rintro v W1 ⟨rfl, u, stE, I⟩
    replace g := g.read u I
    clear u I
    have G := (askF1).of_rd (Rd.seq (D := fun _ => textC) RA R2) hne
    obtain ⟨a, e, hc, hst⟩ := g.rd.cell
    by_cases hf : finE (st2) = 0
    · rw [if_pos hf] at G
      simp [go_sem, hf, hc, g.res]
      exact ⟨g.rd.u.setB _ _ (fun h => absurd h (by have := g.ne; omega)), by rw [G]; exact ⟨_, rfl, rfl, nilW _ _, nil_own _ _, nilL _ _⟩⟩
    · rw [if_neg hf] at G
      simp [go_sem, hf, g.res]
      exact ⟨g.rd.u.setB _ _ (fun h => absurd h (by have := g.ne; omega)), by rw [G]; rfl⟩
set_option maxHeartbeats 2000000 in
theorem talkGetSay0 {s : Value} {l : List UInt8} (hb : BytesAt w s l) (hl : l.length ≤ 1099511627776) : CallP Tryz.prog 95 #[.int .u16 0, s] w (fun r w' => Upd noB w w' ∧ SayRes w' w.heap.size r (sayF0.get l)) := by
  obtain ⟨p, cap, rfl, hcap⟩ := hb.len
  refine call_den (args := [_, _]) Tryz.func95 rfl rfl (by simp [Tryz.ntmps95]) ?_
  simp [go_sem]
  refine CallP.mono (talkKnown_any _ (by decide) _) ?_
  rintro r W ⟨rfl, hW⟩
  have hu : Upd noB w W := by rw [hW]; exact (by repeat (first | exact Upd.refl _ _ | refine Upd.alloc ?_ _ | refine Upd.drew ?_ | refine Upd.drewN ?_ _ | refine Upd.setB ?_ _ _ (fun h => absurd h (by omega))))
  have h0 : W.heap[w.heap.size]? = some (.cells zeroS.cells 39 (0, 0)) := by rw [hW, heap_alloc, if_pos rfl]
  clear hW
  simp [go_sem, known8]
  refine gen_call ?_
  intro W2 hW2
  have g := TSy.start hb hl hu h0 hW2 rfl
  clear hW2 h0 hu
  generalize W.heap.size = b at *
  generalize w.heap.size = rb at *
  clear W
  revert W2
  intro W g
  refine CallP.mono (talkN (k := 2) (by decide) g.rd) ?_
  rintro v W1 ⟨x1, rfl, p1, q1, u, st1, I, R1⟩
  replace g := g.read u I
  clear u I
  obtain ⟨a, e, hc, hst⟩ := g.rd.cell
  have c1 : IntKind.u16.wrap x1 = x1 := wrap16 p1 q1
  simp [go_sem, hc, c1]
  refine gen_call ?_
  intro W2 hW2
  replace g := g.set _ hc hst hW2
  clear hW2 hc hst
  refine CallP.mono (talkZero (k := 2) (by decide) g.rd) ?_
  rintro v W1 ⟨u, st2, I, R2⟩
  replace g := g.read u I
  clear u I
  simp [go_sem]
  refine CallP.mono (talkN (k := 4) (by decide) g.rd) ?_
  rintro v W1 ⟨x3, rfl, p3, q3, u, st3, I, R3⟩
  replace g := g.read u I
  clear u I
  obtain ⟨a, e, hc, hst⟩ := g.rd.cell
  simp [go_sem, hc]
  refine gen_draw ?_
  intro W2 hW2
  replace g := g.set _ hc hst hW2
  clear hW2 hc hst
  refine draw_script [.pure 0, .pure 5, .held [1, 2, 3, 4, 6, 7] 8, .one 9] (by kernel_rfl) (by kernel_rfl) (by kernel_rfl) ?_
  simp [go_sem]
  haveI : Nonempty { W : World // TrueS W } := ⟨⟨W, trivial⟩⟩
  refine opsPh_held _ _ TrueS trivial ?_
  simp [go_sem]
  replace g := g.keep (Upd.refl noB _).drew
  refine CallP.mono (talkPart (k := 8) (by decide) g.rd) ?_
  rintro v W1 ⟨B, ownB, hL', u, st4, I, R4⟩
  replace g := g.read u I
  clear u I
  obtain ⟨pd, cd, rfl, hcd⟩ := ownB.at.len
  have hL := bytes_len R4 hL'
  obtain ⟨a, e, hc, hst⟩ := g.rd.cell
  refine ⟨trivial, ?_⟩
  simp [go_sem]
  rcases hL with rfl | hL
  · simp [go_sem, K_copy_zero]
    have RA : Rd (arrC 8) st3 st4 (zArr 8) := arr_of R4 (fun h => by simp at h)
    refine CallP.mono (talkEnd g.rd) ?_
    have hne := g.rd.ne
    rintro v W1 ⟨rfl, u, stE, I⟩
    replace g := g.read u I
    clear u I
    have G := (sayF0).of_rd (Rd.seq (D := fun _ => _) R1 (Rd.seq (D := fun _ => _) R2 (Rd.seq (D := fun _ => _) R3 RA))) hne
    obtain ⟨a, e, hc, hst⟩ := g.rd.cell
    by_cases hf : finE (st4) = 0
    · rw [if_pos hf] at G
      simp [go_sem, hf, hc, g.res]
      exact ⟨g.rd.u.setB _ _ (fun h => absurd h (by have := g.ne; omega)), by rw [G]; exact ⟨_, rfl, rfl, nil_own _ _, nilE _ _⟩⟩
    · rw [if_neg hf] at G
      simp [go_sem, hf, g.res]
      exact ⟨g.rd.u.setB _ _ (fun h => absurd h (by have := g.ne; omega)), by rw [G]; rfl⟩
  · rw [K_copy_bytes (l := B) ownB.at (by omega) hc (by rw [rdC_size, rdS_size]; omega) hL.symm, rdS_chal _ _ _ _ ⟨B, hL⟩]
    have RA : Rd (arrC 8) st3 st4 ⟨B, hL⟩ := arr_of R4 (fun h => rfl)
    simp [go_sem]
    refine gen_call ?_
    intro W2 hW2
    replace g := g.set _ hc hst hW2
    clear hW2 hc hst
    refine CallP.mono (talkEnd g.rd) ?_
    have hne := g.rd.ne
    rintro v W1 ⟨rfl, u, stE, I⟩
    replace g := g.read u I
    clear u I
    have G := (sayF0).of_rd (Rd.seq (D := fun _ => _) R1 (Rd.seq (D := fun _ => _) R2 (Rd.seq (D := fun _ => _) R3 RA))) hne
    obtain ⟨a, e, hc, hst⟩ := g.rd.cell
    by_cases hf : finE (st4) = 0
    · rw [if_pos hf] at G
      simp [go_sem, hf, hc, g.res]
      exact ⟨g.rd.u.setB _ _ (fun h => absurd h (by have := g.ne; omega)), by rw [G]; exact ⟨_, rfl, rfl, nil_own _ _, nilE _ _⟩⟩
    · rw [if_neg hf] at G
      simp [go_sem, hf, g.res]
      exact ⟨g.rd.u.setB _ _ (fun h => absurd h (by have := g.ne; omega)), by rw [G]; rfl⟩
end Go.Proofs.YtinfdomlpbikaaaGreatDoor
namespace Go.Proofs.YtinfdomlpbikaaaGreatDoor
open Go.Eng Go.Lib
set_option linter.unusedSimpArgs false
set_option linter.unusedVariables false
set_option maxRecDepth 100000
variable {w w0 : World}
def RdS0 (b : Nat) (p : Option Addr) (cap : Nat) (l : List UInt8) (A : AskV) (W : World) : Prop := ∃ a e : Int, W.heap[b]? = some (.cells (rdC (.slice p l.length cap) a e A.cells.toList) 161 (0, 0))
theorem RdS0.load {b : Nat} {p : Option Addr} {cap : Nat} {l : List UInt8} {A : AskV} {W : World} (h : RdS0 b p cap l A W) : (Instr.loadAt 29 (.pointer (some ⟨b, 3, none⟩))).run Tryz.prog W = .ok (.slice A.dialects.p A.dialects.n A.dialects.cap) W := by
  obtain ⟨a, e, h⟩ := h
  exact run_load1 _ _ (Tryz.isAgg29 _) (by rw [cell?_at, h, cellIn_some, rdA_q3])
def DiaT (w : World) (rb b : Nat) (p : Option Addr) (cap : Nat) (l : List UInt8) (st0 : Except Int (List UInt8)) (n n0 : Nat) (m : Nat) (ρ : Env) (W : World) : Prop :=
  ∃ (i : Nat) (L : List Int) (st : Except Int (List UInt8)) (d : SlV), m = n - i ∧ i ≤ n ∧ L.length = i ∧ RdL (numC 2) n i st0 st L ∧ ρ 7 = .int .u64 n ∧ ρ 8 = .int .u64 i ∧ ρ 4 = .pointer (some ⟨rb, 0, none⟩) ∧ ρ 6 = .pointer (some ⟨b, 0, none⟩) ∧
    TAk w W rb b p cap l st { zeroA with dialects := d } ∧ OwnW W n0 (.slice d.p d.n d.cap) L ∧ n0 ≤ W.heap.size
set_option maxHeartbeats 4000000 in
theorem talkGetAsk0 {s : Value} {l : List UInt8} (hb : BytesAt w s l) (hl : l.length ≤ 1099511627776) : CallP Tryz.prog 93 #[.int .u16 0, s] w (fun r w' => Upd noB w w' ∧ AskRes w' w.heap.size r (askF0.get l)) := by
  obtain ⟨p, cap, rfl, hcap⟩ := hb.len
  refine call_den (args := [_, _]) Tryz.func93 rfl rfl (by simp [Tryz.ntmps93]) ?_
  simp [go_sem]
  refine CallP.mono (talkKnown_any _ (by decide) _) ?_
  rintro r W ⟨rfl, hW⟩
  have hu : Upd noB w W := by rw [hW]; exact (by repeat (first | exact Upd.refl _ _ | refine Upd.alloc ?_ _ | refine Upd.drew ?_ | refine Upd.drewN ?_ _ | refine Upd.setB ?_ _ _ (fun h => absurd h (by omega))))
  have h0 : W.heap[w.heap.size]? = some (.cells zeroA.cells 34 (0, 0)) := by rw [hW, heap_alloc, if_pos rfl]
  clear hW
  simp [go_sem, known8]
  refine gen_call ?_
  intro W2 hW2
  have g := TAk.start hb hl hu h0 hW2 rfl
  clear hW2 h0 hu
  generalize W.heap.size = b at *
  generalize w.heap.size = rb at *
  clear W
  revert W2
  intro W g
  have lt := g.lt
  obtain ⟨n0, hn0⟩ : ∃ n0, n0 = W.heap.size := ⟨_, rfl⟩
  rw [← hn0] at lt
  refine CallP.mono (talkN (k := 2) (by decide) g.rd) ?_
  rintro v W1 ⟨x1, rfl, p1, q1, u, st1, I, RN⟩
  have hn1 : n0 ≤ W1.heap.size := by rw [hn0]; exact u.size
  replace g := g.read u I
  clear u I
  obtain ⟨a, e, hc, hst⟩ := g.rd.cell
  obtain ⟨n, rfl⟩ := Int.eq_ofNat_of_zero_le p1
  have hn65 : n < 65536 := by have : (n : Int) < 65536 := q1; omega
  cases st1 with
  | error z =>
    obtain ⟨rfl, hz⟩ := hst
    have R1 : Rd (mostC 2 16 3) (.ok l) (.error e) (n : Int) := chk_st (m := 16) (e := 3) RN (fun _ => rfl)
    rcases (by omega : 16 < (n : Int) ∨ ¬ 16 < (n : Int)) with h16 | h16
    · simp [go_sem, hc, hz, h16]
      have hst : True := trivial
      refine den_loop (DiaT w rb b p cap l (.error e) n n0) n ?_ ?_
      · exact ⟨0, [], _, ⟨none, 0, 0⟩, rfl, by omega, rfl, RdL.start, by simp [go_sem], by simp [go_sem], by simp [go_sem], by simp [go_sem], g, nilW _ _, hn1⟩
      clear g hc hst
      rintro m ρ W ⟨i, L, st, d, rfl, hi, hL, RL, g7, g8, g4, g6, g, own, hnl⟩
      by_cases hrun : i < n ∧ ∃ r, st = .ok r
      · obtain ⟨hin, r, hst⟩ := hrun
        have hin' : (i : Int) < n := by omega
        obtain ⟨a, e, hc, hso⟩ := g.rd.cell
        rw [hst] at hso
        obtain ⟨rfl, _⟩ := hso
        have hwr : IntKind.u64.wrap ((i : Int) + 1) = ((i + 1 : Nat) : Int) := by rw [wrap64 (by omega) (by omega)]; omega
        simp [go_sem, g7, g8, g4, g6, hin', hin, hc]
        refine Go.Eng.Ch.draw_script [.pure 0, .pure 1, .pure 6, .chain [2, 3, 4, 5, 7, 8] [9, 10, 11], .one 12, .one 13, .pure 14, .pure 15, .one 16] (by kernel_rfl) (by kernel_rfl) (by kernel_rfl) ?_
        simp [go_sem, g6]
        obtain ⟨A, hA⟩ : ∃ A : AskV, A = { zeroA with dialects := d } := ⟨_, rfl⟩
        have hAd : A.dialects = d := by rw [hA]
        rw [← hA] at g hc
        have hS0 : RdS0 b p cap l A W.drew := ⟨_, _, hc⟩
        haveI : Nonempty { W : World // RdS0 b p cap l A W } := ⟨⟨W.drew, hS0⟩⟩
        have g := g.keep (Upd.refl noB W).drew
        have own := own_keep0 own (Upd.refl noB W).drew
        refine Go.Eng.Ch.opsPh_chain _ _ _ hS0 ?_
        have ql := Q_load_fix (P := Tryz.prog) (W := fun i : { W : World // RdS0 b p cap l A W } => i.1) (fun i => i.2.load)
        simp [go_sem, ql, hAd]
        refine CallP.mono (talkN (k := 2) (by decide) g.rd) ?_
        rintro v W1 ⟨x, rfl, p2, q2, u, st2, I, R⟩
        have hx : IntKind.u16.wrap x = x := wrap16 p2 q2
        replace g := g.read u I
        replace own := own_above own u (fun i h => by subst h; exact lt.1)
        have hn2 : n0 ≤ W1.heap.size := Nat.le_trans hnl u.size
        obtain ⟨a1, e1, hc1, hst1⟩ := g.rd.cell
        have hS1 : RdS0 b p cap l A W1 := ⟨_, _, hc1⟩
        simp [go_sem, Go.Eng.Ch.contJ_app hS1, hx]
        have hb1 := slU16.build1K (w := W1) (u16V x) rfl (by decide)
        simp only [Value.cells, u16V] at hb1
        have gd := g.keep ((Upd.refl noB W1).alloc (.cells #[.int .u16 x] 22))
        obtain ⟨a3, e3, hc3, hst3⟩ := gd.rd.cell
        have hS2 : RdS0 b p cap l A (W1.alloc (.cells #[.int .u16 x] 22)) := ⟨_, _, hc3⟩
        obtain ⟨v', W2, hrun, own2, u2⟩ := sl_pushR slU16 own [u16V x] rfl (by intro u hu; simp at hu; subst hu; rfl) 29 (by omega) (by simp [maxLen]; omega) hn2
        simp only [u16V] at hrun
        simp [hb1, go_sem, Go.Eng.Ch.contJ_app hS2, K_append_ok _ _ _ _ hrun]
        have g2 := g.keepN lt u2
        obtain ⟨d2p, d2n, d2c, rfl⟩ : ∃ p n c, v' = .slice p n c := by
          obtain ⟨q, c, h⟩ := (RowAt.of_own own2).len
          exact ⟨q, _, c, h⟩
        obtain ⟨a2, e2, hc2, hst2⟩ := g2.rd.cell
        simp [go_sem, g4, g6, g7, g8, hwr, hc2]
        have hA2 : ({ A with dialects := ⟨d2p, d2n, d2c⟩ } : AskV) = { zeroA with dialects := ⟨d2p, d2n, d2c⟩ } := by rw [hA]
        refine ⟨n - (i + 1), by omega, i + 1, L ++ [x], st2, ⟨d2p, d2n, d2c⟩, rfl, by omega, by simp [hL], RL.step hin R, by simp [go_sem, g7], by simp [go_sem], by simp [go_sem, g4], by simp [go_sem, g6], g2.set _ hc2 hst2 (by rw [← hA2]), ?_, ?_⟩
        · have o := own_above own2 (Upd.setB (Upd.refl (fun x => x = b) W2) b (.cells (rdC (.slice p l.length cap) a2 e2 (AskV.cells { A with dialects := ⟨d2p, d2n, d2c⟩ }).toList) 161) (fun _ => rfl)) (fun i h => by subst h; exact lt.1)
          unfold OwnW
          rw [List.length_append, List.map_append]
          exact o
        · rw [size_setB]
          exact Nat.le_trans hn2 u2.size
      · by_cases hin : i < n
        · have hin' : (i : Int) < n := by omega
          obtain ⟨a, e, hc, hso⟩ := g.rd.cell
          cases st with
          | ok r => exact absurd ⟨hin, r, rfl⟩ hrun
          | error z =>
            obtain ⟨rfl, hz⟩ := hso
            have RD := RL.err
            simp [go_sem, g7, g8, g4, g6, hin', hin, hc, hz]
            obtain ⟨st, hste⟩ : ∃ st : Except Int (List UInt8), st = .error e := ⟨_, rfl⟩
            rw [← hste] at g RD
            refine draw_script [.pure 0, .pure 5, .held [1, 2, 3, 4, 6, 7] 8, .one 9] (by kernel_rfl) (by kernel_rfl) (by kernel_rfl) ?_
            simp [go_sem, g6]
            haveI : Nonempty { W : World // TrueS W } := ⟨⟨W, trivial⟩⟩
            refine opsPh_held _ _ TrueS trivial ?_
            simp [go_sem]
            replace g := g.keep (Upd.refl noB _).drew
            replace own := own_keep0 own (Upd.refl noB _).drew
            refine CallP.mono (talkPart (k := 16) (by decide) g.rd) ?_
            rintro v W1 ⟨B, ownB, hL', u, st2, I, R2⟩
            replace own := own_above own u (fun i h => by subst h; exact lt.1)
            replace g := g.read u I
            clear u I
            obtain ⟨pd, cd, rfl, hcd⟩ := ownB.at.len
            have hL := bytes_len R2 hL'
            obtain ⟨a, e, hc, hst⟩ := g.rd.cell
            refine ⟨trivial, ?_⟩
            simp [go_sem]
            rcases hL with rfl | hL
            · simp [go_sem, K_copy_zero, g6]
              have RA : Rd (arrC 16) st st2 (zArr 16) := arr_of R2 (fun h => by simp at h)
              refine CallP.mono (talkEnd g.rd) ?_
              have hne := g.rd.ne
              rintro v W1 ⟨rfl, u, stE, I⟩
              replace own := own_above own u (fun i h => by subst h; exact lt.1)
              replace g := g.read u I
              clear u I
              have G := (askF0).of_rd (ask0_of R1 RD RA) hne
              obtain ⟨a, e, hc, hst⟩ := g.rd.cell
              by_cases hf : finE (st2) = 0
              · rw [if_pos hf] at G
                simp [go_sem, hf, hc, g.res, g4, g6]
                refine ⟨g.rd.u.setB _ _ (fun h => absurd h (by have := g.ne; omega)), ?_⟩
                rw [G]
                exact ⟨_, rfl, rfl, own_base (own_above own (Upd.setB (Upd.refl (fun x => x = rb) _) _ _ (fun _ => rfl)) (fun i h => by subst h; exact lt.2.1)) (Nat.le_of_lt lt.2.1), nil_own _ _, nilL _ _⟩
              · rw [if_neg hf] at G
                simp [go_sem, hf, g.res, g4, g6]
                exact ⟨g.rd.u.setB _ _ (fun h => absurd h (by have := g.ne; omega)), by rw [G]; rfl⟩
            · rw [K_copy_bytes (l := B) ownB.at (by omega) hc (by rw [rdC_size, rdA_size]; omega) hL.symm, rdA_guid _ _ _ _ ⟨B, hL⟩]
              have RA : Rd (arrC 16) st st2 ⟨B, hL⟩ := arr_of R2 (fun h => rfl)
              simp [go_sem, g6]
              refine gen_call ?_
              intro W2 hW2
              replace own := own_above own (by rw [hW2]; exact Upd.setB (Upd.refl (fun x => x = b) _) _ _ (fun _ => rfl) : Upd (fun x => x = b) W1 W2) (fun i h => by subst h; exact lt.1)
              replace g := g.set _ hc hst hW2
              clear hW2 hc hst
              refine CallP.mono (talkEnd g.rd) ?_
              have hne := g.rd.ne
              rintro v W1 ⟨rfl, u, stE, I⟩
              replace own := own_above own u (fun i h => by subst h; exact lt.1)
              replace g := g.read u I
              clear u I
              have G := (askF0).of_rd (ask0_of R1 RD RA) hne
              obtain ⟨a, e, hc, hst⟩ := g.rd.cell
              by_cases hf : finE (st2) = 0
              · rw [if_pos hf] at G
                simp [go_sem, hf, hc, g.res, g4, g6]
                refine ⟨g.rd.u.setB _ _ (fun h => absurd h (by have := g.ne; omega)), ?_⟩
                rw [G]
                exact ⟨_, rfl, rfl, own_base (own_above own (Upd.setB (Upd.refl (fun x => x = rb) _) _ _ (fun _ => rfl)) (fun i h => by subst h; exact lt.2.1)) (Nat.le_of_lt lt.2.1), nil_own _ _, nilL _ _⟩
              · rw [if_neg hf] at G
                simp [go_sem, hf, g.res, g4, g6]
                exact ⟨g.rd.u.setB _ _ (fun h => absurd h (by have := g.ne; omega)), by rw [G]; rfl⟩
        · have hi' : i = n := by omega
          subst hi'
          have RD := RL.done
          simp [go_sem, g7, g8, g4, g6]
          refine draw_script [.pure 0, .pure 5, .held [1, 2, 3, 4, 6, 7] 8, .one 9] (by kernel_rfl) (by kernel_rfl) (by kernel_rfl) ?_
          simp [go_sem, g6]
          haveI : Nonempty { W : World // TrueS W } := ⟨⟨W, trivial⟩⟩
          refine opsPh_held _ _ TrueS trivial ?_
          simp [go_sem]
          replace g := g.keep (Upd.refl noB _).drew
          replace own := own_keep0 own (Upd.refl noB _).drew
          refine CallP.mono (talkPart (k := 16) (by decide) g.rd) ?_
          rintro v W1 ⟨B, ownB, hL', u, st2, I, R2⟩
          replace own := own_above own u (fun i h => by subst h; exact lt.1)
          replace g := g.read u I
          clear u I
          obtain ⟨pd, cd, rfl, hcd⟩ := ownB.at.len
          have hL := bytes_len R2 hL'
          obtain ⟨a, e, hc, hst⟩ := g.rd.cell
          refine ⟨trivial, ?_⟩
          simp [go_sem]
          rcases hL with rfl | hL
          · simp [go_sem, K_copy_zero, g6]
            have RA : Rd (arrC 16) st st2 (zArr 16) := arr_of R2 (fun h => by simp at h)
            refine CallP.mono (talkEnd g.rd) ?_
            have hne := g.rd.ne
            rintro v W1 ⟨rfl, u, stE, I⟩
            replace own := own_above own u (fun i h => by subst h; exact lt.1)
            replace g := g.read u I
            clear u I
            have G := (askF0).of_rd (ask0_of R1 RD RA) hne
            obtain ⟨a, e, hc, hst⟩ := g.rd.cell
            by_cases hf : finE (st2) = 0
            · rw [if_pos hf] at G
              simp [go_sem, hf, hc, g.res, g4, g6]
              refine ⟨g.rd.u.setB _ _ (fun h => absurd h (by have := g.ne; omega)), ?_⟩
              rw [G]
              exact ⟨_, rfl, rfl, own_base (own_above own (Upd.setB (Upd.refl (fun x => x = rb) _) _ _ (fun _ => rfl)) (fun i h => by subst h; exact lt.2.1)) (Nat.le_of_lt lt.2.1), nil_own _ _, nilL _ _⟩
            · rw [if_neg hf] at G
              simp [go_sem, hf, g.res, g4, g6]
              exact ⟨g.rd.u.setB _ _ (fun h => absurd h (by have := g.ne; omega)), by rw [G]; rfl⟩
          · rw [K_copy_bytes (l := B) ownB.at (by omega) hc (by rw [rdC_size, rdA_size]; omega) hL.symm, rdA_guid _ _ _ _ ⟨B, hL⟩]
            have RA : Rd (arrC 16) st st2 ⟨B, hL⟩ := arr_of R2 (fun h => rfl)
            simp [go_sem, g6]
            refine gen_call ?_
            intro W2 hW2
            replace own := own_above own (by rw [hW2]; exact Upd.setB (Upd.refl (fun x => x = b) _) _ _ (fun _ => rfl) : Upd (fun x => x = b) W1 W2) (fun i h => by subst h; exact lt.1)
            replace g := g.set _ hc hst hW2
            clear hW2 hc hst
            refine CallP.mono (talkEnd g.rd) ?_
            have hne := g.rd.ne
            rintro v W1 ⟨rfl, u, stE, I⟩
            replace own := own_above own u (fun i h => by subst h; exact lt.1)
            replace g := g.read u I
            clear u I
            have G := (askF0).of_rd (ask0_of R1 RD RA) hne
            obtain ⟨a, e, hc, hst⟩ := g.rd.cell
            by_cases hf : finE (st2) = 0
            · rw [if_pos hf] at G
              simp [go_sem, hf, hc, g.res, g4, g6]
              refine ⟨g.rd.u.setB _ _ (fun h => absurd h (by have := g.ne; omega)), ?_⟩
              rw [G]
              exact ⟨_, rfl, rfl, own_base (own_above own (Upd.setB (Upd.refl (fun x => x = rb) _) _ _ (fun _ => rfl)) (fun i h => by subst h; exact lt.2.1)) (Nat.le_of_lt lt.2.1), nil_own _ _, nilL _ _⟩
            · rw [if_neg hf] at G
              simp [go_sem, hf, g.res, g4, g6]
              exact ⟨g.rd.u.setB _ _ (fun h => absurd h (by have := g.ne; omega)), by rw [G]; rfl⟩
    · simp [go_sem, hc, hz, h16]
      have hst : True := trivial
      refine den_loop (DiaT w rb b p cap l (.error e) n n0) n ?_ ?_
      · exact ⟨0, [], _, ⟨none, 0, 0⟩, rfl, by omega, rfl, RdL.start, by simp [go_sem], by simp [go_sem], by simp [go_sem], by simp [go_sem], g, nilW _ _, hn1⟩
      clear g hc hst
      rintro m ρ W ⟨i, L, st, d, rfl, hi, hL, RL, g7, g8, g4, g6, g, own, hnl⟩
      by_cases hrun : i < n ∧ ∃ r, st = .ok r
      · obtain ⟨hin, r, hst⟩ := hrun
        have hin' : (i : Int) < n := by omega
        obtain ⟨a, e, hc, hso⟩ := g.rd.cell
        rw [hst] at hso
        obtain ⟨rfl, _⟩ := hso
        have hwr : IntKind.u64.wrap ((i : Int) + 1) = ((i + 1 : Nat) : Int) := by rw [wrap64 (by omega) (by omega)]; omega
        simp [go_sem, g7, g8, g4, g6, hin', hin, hc]
        refine Go.Eng.Ch.draw_script [.pure 0, .pure 1, .pure 6, .chain [2, 3, 4, 5, 7, 8] [9, 10, 11], .one 12, .one 13, .pure 14, .pure 15, .one 16] (by kernel_rfl) (by kernel_rfl) (by kernel_rfl) ?_
        simp [go_sem, g6]
        obtain ⟨A, hA⟩ : ∃ A : AskV, A = { zeroA with dialects := d } := ⟨_, rfl⟩
        have hAd : A.dialects = d := by rw [hA]
        rw [← hA] at g hc
        have hS0 : RdS0 b p cap l A W.drew := ⟨_, _, hc⟩
        haveI : Nonempty { W : World // RdS0 b p cap l A W } := ⟨⟨W.drew, hS0⟩⟩
        have g := g.keep (Upd.refl noB W).drew
        have own := own_keep0 own (Upd.refl noB W).drew
        refine Go.Eng.Ch.opsPh_chain _ _ _ hS0 ?_
        have ql := Q_load_fix (P := Tryz.prog) (W := fun i : { W : World // RdS0 b p cap l A W } => i.1) (fun i => i.2.load)
        simp [go_sem, ql, hAd]
        refine CallP.mono (talkN (k := 2) (by decide) g.rd) ?_
        rintro v W1 ⟨x, rfl, p2, q2, u, st2, I, R⟩
        have hx : IntKind.u16.wrap x = x := wrap16 p2 q2
        replace g := g.read u I
        replace own := own_above own u (fun i h => by subst h; exact lt.1)
        have hn2 : n0 ≤ W1.heap.size := Nat.le_trans hnl u.size
        obtain ⟨a1, e1, hc1, hst1⟩ := g.rd.cell
        have hS1 : RdS0 b p cap l A W1 := ⟨_, _, hc1⟩
        simp [go_sem, Go.Eng.Ch.contJ_app hS1, hx]
        have hb1 := slU16.build1K (w := W1) (u16V x) rfl (by decide)
        simp only [Value.cells, u16V] at hb1
        have gd := g.keep ((Upd.refl noB W1).alloc (.cells #[.int .u16 x] 22))
        obtain ⟨a3, e3, hc3, hst3⟩ := gd.rd.cell
        have hS2 : RdS0 b p cap l A (W1.alloc (.cells #[.int .u16 x] 22)) := ⟨_, _, hc3⟩
        obtain ⟨v', W2, hrun, own2, u2⟩ := sl_pushR slU16 own [u16V x] rfl (by intro u hu; simp at hu; subst hu; rfl) 29 (by omega) (by simp [maxLen]; omega) hn2
        simp only [u16V] at hrun
        simp [hb1, go_sem, Go.Eng.Ch.contJ_app hS2, K_append_ok _ _ _ _ hrun]
        have g2 := g.keepN lt u2
        obtain ⟨d2p, d2n, d2c, rfl⟩ : ∃ p n c, v' = .slice p n c := by
          obtain ⟨q, c, h⟩ := (RowAt.of_own own2).len
          exact ⟨q, _, c, h⟩
        obtain ⟨a2, e2, hc2, hst2⟩ := g2.rd.cell
        simp [go_sem, g4, g6, g7, g8, hwr, hc2]
        have hA2 : ({ A with dialects := ⟨d2p, d2n, d2c⟩ } : AskV) = { zeroA with dialects := ⟨d2p, d2n, d2c⟩ } := by rw [hA]
        refine ⟨n - (i + 1), by omega, i + 1, L ++ [x], st2, ⟨d2p, d2n, d2c⟩, rfl, by omega, by simp [hL], RL.step hin R, by simp [go_sem, g7], by simp [go_sem], by simp [go_sem, g4], by simp [go_sem, g6], g2.set _ hc2 hst2 (by rw [← hA2]), ?_, ?_⟩
        · have o := own_above own2 (Upd.setB (Upd.refl (fun x => x = b) W2) b (.cells (rdC (.slice p l.length cap) a2 e2 (AskV.cells { A with dialects := ⟨d2p, d2n, d2c⟩ }).toList) 161) (fun _ => rfl)) (fun i h => by subst h; exact lt.1)
          unfold OwnW
          rw [List.length_append, List.map_append]
          exact o
        · rw [size_setB]
          exact Nat.le_trans hn2 u2.size
      · by_cases hin : i < n
        · have hin' : (i : Int) < n := by omega
          obtain ⟨a, e, hc, hso⟩ := g.rd.cell
          cases st with
          | ok r => exact absurd ⟨hin, r, rfl⟩ hrun
          | error z =>
            obtain ⟨rfl, hz⟩ := hso
            have RD := RL.err
            simp [go_sem, g7, g8, g4, g6, hin', hin, hc, hz]
            obtain ⟨st, hste⟩ : ∃ st : Except Int (List UInt8), st = .error e := ⟨_, rfl⟩
            rw [← hste] at g RD
            refine draw_script [.pure 0, .pure 5, .held [1, 2, 3, 4, 6, 7] 8, .one 9] (by kernel_rfl) (by kernel_rfl) (by kernel_rfl) ?_
            simp [go_sem, g6]
            haveI : Nonempty { W : World // TrueS W } := ⟨⟨W, trivial⟩⟩
            refine opsPh_held _ _ TrueS trivial ?_
            simp [go_sem]
            replace g := g.keep (Upd.refl noB _).drew
            replace own := own_keep0 own (Upd.refl noB _).drew
            refine CallP.mono (talkPart (k := 16) (by decide) g.rd) ?_
            rintro v W1 ⟨B, ownB, hL', u, st2, I, R2⟩
            replace own := own_above own u (fun i h => by subst h; exact lt.1)
            replace g := g.read u I
            clear u I
            obtain ⟨pd, cd, rfl, hcd⟩ := ownB.at.len
            have hL := bytes_len R2 hL'
            obtain ⟨a, e, hc, hst⟩ := g.rd.cell
            refine ⟨trivial, ?_⟩
            simp [go_sem]
            rcases hL with rfl | hL
            · simp [go_sem, K_copy_zero, g6]
              have RA : Rd (arrC 16) st st2 (zArr 16) := arr_of R2 (fun h => by simp at h)
              refine CallP.mono (talkEnd g.rd) ?_
              have hne := g.rd.ne
              rintro v W1 ⟨rfl, u, stE, I⟩
              replace own := own_above own u (fun i h => by subst h; exact lt.1)
              replace g := g.read u I
              clear u I
              have G := (askF0).of_rd (ask0_of R1 RD RA) hne
              obtain ⟨a, e, hc, hst⟩ := g.rd.cell
              by_cases hf : finE (st2) = 0
              · rw [if_pos hf] at G
                simp [go_sem, hf, hc, g.res, g4, g6]
                refine ⟨g.rd.u.setB _ _ (fun h => absurd h (by have := g.ne; omega)), ?_⟩
                rw [G]
                exact ⟨_, rfl, rfl, own_base (own_above own (Upd.setB (Upd.refl (fun x => x = rb) _) _ _ (fun _ => rfl)) (fun i h => by subst h; exact lt.2.1)) (Nat.le_of_lt lt.2.1), nil_own _ _, nilL _ _⟩
              · rw [if_neg hf] at G
                simp [go_sem, hf, g.res, g4, g6]
                exact ⟨g.rd.u.setB _ _ (fun h => absurd h (by have := g.ne; omega)), by rw [G]; rfl⟩
            · rw [K_copy_bytes (l := B) ownB.at (by omega) hc (by rw [rdC_size, rdA_size]; omega) hL.symm, rdA_guid _ _ _ _ ⟨B, hL⟩]
              have RA : Rd (arrC 16) st st2 ⟨B, hL⟩ := arr_of R2 (fun h => rfl)
              simp [go_sem, g6]
              refine gen_call ?_
              intro W2 hW2
              replace own := own_above own (by rw [hW2]; exact Upd.setB (Upd.refl (fun x => x = b) _) _ _ (fun _ => rfl) : Upd (fun x => x = b) W1 W2) (fun i h => by subst h; exact lt.1)
              replace g := g.set _ hc hst hW2
              clear hW2 hc hst
              refine CallP.mono (talkEnd g.rd) ?_
              have hne := g.rd.ne
              rintro v W1 ⟨rfl, u, stE, I⟩
              replace own := own_above own u (fun i h => by subst h; exact lt.1)
              replace g := g.read u I
              clear u I
              have G := (askF0).of_rd (ask0_of R1 RD RA) hne
              obtain ⟨a, e, hc, hst⟩ := g.rd.cell
              by_cases hf : finE (st2) = 0
              · rw [if_pos hf] at G
                simp [go_sem, hf, hc, g.res, g4, g6]
                refine ⟨g.rd.u.setB _ _ (fun h => absurd h (by have := g.ne; omega)), ?_⟩
                rw [G]
                exact ⟨_, rfl, rfl, own_base (own_above own (Upd.setB (Upd.refl (fun x => x = rb) _) _ _ (fun _ => rfl)) (fun i h => by subst h; exact lt.2.1)) (Nat.le_of_lt lt.2.1), nil_own _ _, nilL _ _⟩
              · rw [if_neg hf] at G
                simp [go_sem, hf, g.res, g4, g6]
                exact ⟨g.rd.u.setB _ _ (fun h => absurd h (by have := g.ne; omega)), by rw [G]; rfl⟩
        · have hi' : i = n := by omega
          subst hi'
          have RD := RL.done
          simp [go_sem, g7, g8, g4, g6]
          refine draw_script [.pure 0, .pure 5, .held [1, 2, 3, 4, 6, 7] 8, .one 9] (by kernel_rfl) (by kernel_rfl) (by kernel_rfl) ?_
          simp [go_sem, g6]
          haveI : Nonempty { W : World // TrueS W } := ⟨⟨W, trivial⟩⟩
          refine opsPh_held _ _ TrueS trivial ?_
          simp [go_sem]
          replace g := g.keep (Upd.refl noB _).drew
          replace own := own_keep0 own (Upd.refl noB _).drew
          refine CallP.mono (talkPart (k := 16) (by decide) g.rd) ?_
          rintro v W1 ⟨B, ownB, hL', u, st2, I, R2⟩
          replace own := own_above own u (fun i h => by subst h; exact lt.1)
          replace g := g.read u I
          clear u I
          obtain ⟨pd, cd, rfl, hcd⟩ := ownB.at.len
          have hL := bytes_len R2 hL'
          obtain ⟨a, e, hc, hst⟩ := g.rd.cell
          refine ⟨trivial, ?_⟩
          simp [go_sem]
          rcases hL with rfl | hL
          · simp [go_sem, K_copy_zero, g6]
            have RA : Rd (arrC 16) st st2 (zArr 16) := arr_of R2 (fun h => by simp at h)
            refine CallP.mono (talkEnd g.rd) ?_
            have hne := g.rd.ne
            rintro v W1 ⟨rfl, u, stE, I⟩
            replace own := own_above own u (fun i h => by subst h; exact lt.1)
            replace g := g.read u I
            clear u I
            have G := (askF0).of_rd (ask0_of R1 RD RA) hne
            obtain ⟨a, e, hc, hst⟩ := g.rd.cell
            by_cases hf : finE (st2) = 0
            · rw [if_pos hf] at G
              simp [go_sem, hf, hc, g.res, g4, g6]
              refine ⟨g.rd.u.setB _ _ (fun h => absurd h (by have := g.ne; omega)), ?_⟩
              rw [G]
              exact ⟨_, rfl, rfl, own_base (own_above own (Upd.setB (Upd.refl (fun x => x = rb) _) _ _ (fun _ => rfl)) (fun i h => by subst h; exact lt.2.1)) (Nat.le_of_lt lt.2.1), nil_own _ _, nilL _ _⟩
            · rw [if_neg hf] at G
              simp [go_sem, hf, g.res, g4, g6]
              exact ⟨g.rd.u.setB _ _ (fun h => absurd h (by have := g.ne; omega)), by rw [G]; rfl⟩
          · rw [K_copy_bytes (l := B) ownB.at (by omega) hc (by rw [rdC_size, rdA_size]; omega) hL.symm, rdA_guid _ _ _ _ ⟨B, hL⟩]
            have RA : Rd (arrC 16) st st2 ⟨B, hL⟩ := arr_of R2 (fun h => rfl)
            simp [go_sem, g6]
            refine gen_call ?_
            intro W2 hW2
            replace own := own_above own (by rw [hW2]; exact Upd.setB (Upd.refl (fun x => x = b) _) _ _ (fun _ => rfl) : Upd (fun x => x = b) W1 W2) (fun i h => by subst h; exact lt.1)
            replace g := g.set _ hc hst hW2
            clear hW2 hc hst
            refine CallP.mono (talkEnd g.rd) ?_
            have hne := g.rd.ne
            rintro v W1 ⟨rfl, u, stE, I⟩
            replace own := own_above own u (fun i h => by subst h; exact lt.1)
            replace g := g.read u I
            clear u I
            have G := (askF0).of_rd (ask0_of R1 RD RA) hne
            obtain ⟨a, e, hc, hst⟩ := g.rd.cell
            by_cases hf : finE (st2) = 0
            · rw [if_pos hf] at G
              simp [go_sem, hf, hc, g.res, g4, g6]
              refine ⟨g.rd.u.setB _ _ (fun h => absurd h (by have := g.ne; omega)), ?_⟩
              rw [G]
              exact ⟨_, rfl, rfl, own_base (own_above own (Upd.setB (Upd.refl (fun x => x = rb) _) _ _ (fun _ => rfl)) (fun i h => by subst h; exact lt.2.1)) (Nat.le_of_lt lt.2.1), nil_own _ _, nilL _ _⟩
            · rw [if_neg hf] at G
              simp [go_sem, hf, g.res, g4, g6]
              exact ⟨g.rd.u.setB _ _ (fun h => absurd h (by have := g.ne; omega)), by rw [G]; rfl⟩
  | ok r =>
    obtain ⟨rfl, hst⟩ := hst
    rcases (by omega : 16 < (n : Int) ∨ ¬ 16 < (n : Int)) with h16 | h16
    · have hm : ¬ (n : Int) ≤ 16 := by omega
      have R1 : Rd (mostC 2 16 3) (.ok l) (.error 3) (n : Int) := by
        have := chk_st (m := 16) (e := 3) RN (y := (n : Int)) (fun h => absurd h hm)
        simp only [chkSt, hm, decide_true, decide_false, if_true, if_false, Bool.false_eq_true] at this
        exact this
      simp [go_sem, hc, h16]
      refine gen_den ?_
      intro W2 hW2
      have u2 : Upd (fun x => x = b) W1 W2 := by rw [hW2]; exact (Upd.refl _ _).setB _ _ (fun _ => rfl)
      replace g := g.read u2 (g.rd.set (st' := .error 3) u2 (by rw [hW2, heap_setB, if_pos rfl, hc]; rfl) ⟨rfl, by decide⟩)
      replace hn1 := Nat.le_trans hn1 u2.size
      clear u2 hW2
      refine den_loop (DiaT w rb b p cap l (.error 3) n n0) n ?_ ?_
      · exact ⟨0, [], _, ⟨none, 0, 0⟩, rfl, by omega, rfl, RdL.start, by simp [go_sem], by simp [go_sem], by simp [go_sem], by simp [go_sem], g, nilW _ _, hn1⟩
      clear g hc hst
      rintro m ρ W ⟨i, L, st, d, rfl, hi, hL, RL, g7, g8, g4, g6, g, own, hnl⟩
      by_cases hrun : i < n ∧ ∃ r, st = .ok r
      · obtain ⟨hin, r, hst⟩ := hrun
        have hin' : (i : Int) < n := by omega
        obtain ⟨a, e, hc, hso⟩ := g.rd.cell
        rw [hst] at hso
        obtain ⟨rfl, _⟩ := hso
        have hwr : IntKind.u64.wrap ((i : Int) + 1) = ((i + 1 : Nat) : Int) := by rw [wrap64 (by omega) (by omega)]; omega
        simp [go_sem, g7, g8, g4, g6, hin', hin, hc]
        refine Go.Eng.Ch.draw_script [.pure 0, .pure 1, .pure 6, .chain [2, 3, 4, 5, 7, 8] [9, 10, 11], .one 12, .one 13, .pure 14, .pure 15, .one 16] (by kernel_rfl) (by kernel_rfl) (by kernel_rfl) ?_
        simp [go_sem, g6]
        obtain ⟨A, hA⟩ : ∃ A : AskV, A = { zeroA with dialects := d } := ⟨_, rfl⟩
        have hAd : A.dialects = d := by rw [hA]
        rw [← hA] at g hc
        have hS0 : RdS0 b p cap l A W.drew := ⟨_, _, hc⟩
        haveI : Nonempty { W : World // RdS0 b p cap l A W } := ⟨⟨W.drew, hS0⟩⟩
        have g := g.keep (Upd.refl noB W).drew
        have own := own_keep0 own (Upd.refl noB W).drew
        refine Go.Eng.Ch.opsPh_chain _ _ _ hS0 ?_
        have ql := Q_load_fix (P := Tryz.prog) (W := fun i : { W : World // RdS0 b p cap l A W } => i.1) (fun i => i.2.load)
        simp [go_sem, ql, hAd]
        refine CallP.mono (talkN (k := 2) (by decide) g.rd) ?_
        rintro v W1 ⟨x, rfl, p2, q2, u, st2, I, R⟩
        have hx : IntKind.u16.wrap x = x := wrap16 p2 q2
        replace g := g.read u I
        replace own := own_above own u (fun i h => by subst h; exact lt.1)
        have hn2 : n0 ≤ W1.heap.size := Nat.le_trans hnl u.size
        obtain ⟨a1, e1, hc1, hst1⟩ := g.rd.cell
        have hS1 : RdS0 b p cap l A W1 := ⟨_, _, hc1⟩
        simp [go_sem, Go.Eng.Ch.contJ_app hS1, hx]
        have hb1 := slU16.build1K (w := W1) (u16V x) rfl (by decide)
        simp only [Value.cells, u16V] at hb1
        have gd := g.keep ((Upd.refl noB W1).alloc (.cells #[.int .u16 x] 22))
        obtain ⟨a3, e3, hc3, hst3⟩ := gd.rd.cell
        have hS2 : RdS0 b p cap l A (W1.alloc (.cells #[.int .u16 x] 22)) := ⟨_, _, hc3⟩
        obtain ⟨v', W2, hrun, own2, u2⟩ := sl_pushR slU16 own [u16V x] rfl (by intro u hu; simp at hu; subst hu; rfl) 29 (by omega) (by simp [maxLen]; omega) hn2
        simp only [u16V] at hrun
        simp [hb1, go_sem, Go.Eng.Ch.contJ_app hS2, K_append_ok _ _ _ _ hrun]
        have g2 := g.keepN lt u2
        obtain ⟨d2p, d2n, d2c, rfl⟩ : ∃ p n c, v' = .slice p n c := by
          obtain ⟨q, c, h⟩ := (RowAt.of_own own2).len
          exact ⟨q, _, c, h⟩
        obtain ⟨a2, e2, hc2, hst2⟩ := g2.rd.cell
        simp [go_sem, g4, g6, g7, g8, hwr, hc2]
        have hA2 : ({ A with dialects := ⟨d2p, d2n, d2c⟩ } : AskV) = { zeroA with dialects := ⟨d2p, d2n, d2c⟩ } := by rw [hA]
        refine ⟨n - (i + 1), by omega, i + 1, L ++ [x], st2, ⟨d2p, d2n, d2c⟩, rfl, by omega, by simp [hL], RL.step hin R, by simp [go_sem, g7], by simp [go_sem], by simp [go_sem, g4], by simp [go_sem, g6], g2.set _ hc2 hst2 (by rw [← hA2]), ?_, ?_⟩
        · have o := own_above own2 (Upd.setB (Upd.refl (fun x => x = b) W2) b (.cells (rdC (.slice p l.length cap) a2 e2 (AskV.cells { A with dialects := ⟨d2p, d2n, d2c⟩ }).toList) 161) (fun _ => rfl)) (fun i h => by subst h; exact lt.1)
          unfold OwnW
          rw [List.length_append, List.map_append]
          exact o
        · rw [size_setB]
          exact Nat.le_trans hn2 u2.size
      · by_cases hin : i < n
        · have hin' : (i : Int) < n := by omega
          obtain ⟨a, e, hc, hso⟩ := g.rd.cell
          cases st with
          | ok r => exact absurd ⟨hin, r, rfl⟩ hrun
          | error z =>
            obtain ⟨rfl, hz⟩ := hso
            have RD := RL.err
            simp [go_sem, g7, g8, g4, g6, hin', hin, hc, hz]
            obtain ⟨st, hste⟩ : ∃ st : Except Int (List UInt8), st = .error e := ⟨_, rfl⟩
            rw [← hste] at g RD
            refine draw_script [.pure 0, .pure 5, .held [1, 2, 3, 4, 6, 7] 8, .one 9] (by kernel_rfl) (by kernel_rfl) (by kernel_rfl) ?_
            simp [go_sem, g6]
            haveI : Nonempty { W : World // TrueS W } := ⟨⟨W, trivial⟩⟩
            refine opsPh_held _ _ TrueS trivial ?_
            simp [go_sem]
            replace g := g.keep (Upd.refl noB _).drew
            replace own := own_keep0 own (Upd.refl noB _).drew
            refine CallP.mono (talkPart (k := 16) (by decide) g.rd) ?_
            rintro v W1 ⟨B, ownB, hL', u, st2, I, R2⟩
            replace own := own_above own u (fun i h => by subst h; exact lt.1)
            replace g := g.read u I
            clear u I
            obtain ⟨pd, cd, rfl, hcd⟩ := ownB.at.len
            have hL := bytes_len R2 hL'
            obtain ⟨a, e, hc, hst⟩ := g.rd.cell
            refine ⟨trivial, ?_⟩
            simp [go_sem]
            rcases hL with rfl | hL
            · simp [go_sem, K_copy_zero, g6]
              have RA : Rd (arrC 16) st st2 (zArr 16) := arr_of R2 (fun h => by simp at h)
              refine CallP.mono (talkEnd g.rd) ?_
              have hne := g.rd.ne
              rintro v W1 ⟨rfl, u, stE, I⟩
              replace own := own_above own u (fun i h => by subst h; exact lt.1)
              replace g := g.read u I
              clear u I
              have G := (askF0).of_rd (ask0_of R1 RD RA) hne
              obtain ⟨a, e, hc, hst⟩ := g.rd.cell
              by_cases hf : finE (st2) = 0
              · rw [if_pos hf] at G
                simp [go_sem, hf, hc, g.res, g4, g6]
                refine ⟨g.rd.u.setB _ _ (fun h => absurd h (by have := g.ne; omega)), ?_⟩
                rw [G]
                exact ⟨_, rfl, rfl, own_base (own_above own (Upd.setB (Upd.refl (fun x => x = rb) _) _ _ (fun _ => rfl)) (fun i h => by subst h; exact lt.2.1)) (Nat.le_of_lt lt.2.1), nil_own _ _, nilL _ _⟩
              · rw [if_neg hf] at G
                simp [go_sem, hf, g.res, g4, g6]
                exact ⟨g.rd.u.setB _ _ (fun h => absurd h (by have := g.ne; omega)), by rw [G]; rfl⟩
            · rw [K_copy_bytes (l := B) ownB.at (by omega) hc (by rw [rdC_size, rdA_size]; omega) hL.symm, rdA_guid _ _ _ _ ⟨B, hL⟩]
              have RA : Rd (arrC 16) st st2 ⟨B, hL⟩ := arr_of R2 (fun h => rfl)
              simp [go_sem, g6]
              refine gen_call ?_
              intro W2 hW2
              replace own := own_above own (by rw [hW2]; exact Upd.setB (Upd.refl (fun x => x = b) _) _ _ (fun _ => rfl) : Upd (fun x => x = b) W1 W2) (fun i h => by subst h; exact lt.1)
              replace g := g.set _ hc hst hW2
              clear hW2 hc hst
              refine CallP.mono (talkEnd g.rd) ?_
              have hne := g.rd.ne
              rintro v W1 ⟨rfl, u, stE, I⟩
              replace own := own_above own u (fun i h => by subst h; exact lt.1)
              replace g := g.read u I
              clear u I
              have G := (askF0).of_rd (ask0_of R1 RD RA) hne
              obtain ⟨a, e, hc, hst⟩ := g.rd.cell
              by_cases hf : finE (st2) = 0
              · rw [if_pos hf] at G
                simp [go_sem, hf, hc, g.res, g4, g6]
                refine ⟨g.rd.u.setB _ _ (fun h => absurd h (by have := g.ne; omega)), ?_⟩
                rw [G]
                exact ⟨_, rfl, rfl, own_base (own_above own (Upd.setB (Upd.refl (fun x => x = rb) _) _ _ (fun _ => rfl)) (fun i h => by subst h; exact lt.2.1)) (Nat.le_of_lt lt.2.1), nil_own _ _, nilL _ _⟩
              · rw [if_neg hf] at G
                simp [go_sem, hf, g.res, g4, g6]
                exact ⟨g.rd.u.setB _ _ (fun h => absurd h (by have := g.ne; omega)), by rw [G]; rfl⟩
        · have hi' : i = n := by omega
          subst hi'
          have RD := RL.done
          simp [go_sem, g7, g8, g4, g6]
          refine draw_script [.pure 0, .pure 5, .held [1, 2, 3, 4, 6, 7] 8, .one 9] (by kernel_rfl) (by kernel_rfl) (by kernel_rfl) ?_
          simp [go_sem, g6]
          haveI : Nonempty { W : World // TrueS W } := ⟨⟨W, trivial⟩⟩
          refine opsPh_held _ _ TrueS trivial ?_
          simp [go_sem]
          replace g := g.keep (Upd.refl noB _).drew
          replace own := own_keep0 own (Upd.refl noB _).drew
          refine CallP.mono (talkPart (k := 16) (by decide) g.rd) ?_
          rintro v W1 ⟨B, ownB, hL', u, st2, I, R2⟩
          replace own := own_above own u (fun i h => by subst h; exact lt.1)
          replace g := g.read u I
          clear u I
          obtain ⟨pd, cd, rfl, hcd⟩ := ownB.at.len
          have hL := bytes_len R2 hL'
          obtain ⟨a, e, hc, hst⟩ := g.rd.cell
          refine ⟨trivial, ?_⟩
          simp [go_sem]
          rcases hL with rfl | hL
          · simp [go_sem, K_copy_zero, g6]
            have RA : Rd (arrC 16) st st2 (zArr 16) := arr_of R2 (fun h => by simp at h)
            refine CallP.mono (talkEnd g.rd) ?_
            have hne := g.rd.ne
            rintro v W1 ⟨rfl, u, stE, I⟩
            replace own := own_above own u (fun i h => by subst h; exact lt.1)
            replace g := g.read u I
            clear u I
            have G := (askF0).of_rd (ask0_of R1 RD RA) hne
            obtain ⟨a, e, hc, hst⟩ := g.rd.cell
            by_cases hf : finE (st2) = 0
            · rw [if_pos hf] at G
              simp [go_sem, hf, hc, g.res, g4, g6]
              refine ⟨g.rd.u.setB _ _ (fun h => absurd h (by have := g.ne; omega)), ?_⟩
              rw [G]
              exact ⟨_, rfl, rfl, own_base (own_above own (Upd.setB (Upd.refl (fun x => x = rb) _) _ _ (fun _ => rfl)) (fun i h => by subst h; exact lt.2.1)) (Nat.le_of_lt lt.2.1), nil_own _ _, nilL _ _⟩
            · rw [if_neg hf] at G
              simp [go_sem, hf, g.res, g4, g6]
              exact ⟨g.rd.u.setB _ _ (fun h => absurd h (by have := g.ne; omega)), by rw [G]; rfl⟩
          · rw [K_copy_bytes (l := B) ownB.at (by omega) hc (by rw [rdC_size, rdA_size]; omega) hL.symm, rdA_guid _ _ _ _ ⟨B, hL⟩]
            have RA : Rd (arrC 16) st st2 ⟨B, hL⟩ := arr_of R2 (fun h => rfl)
            simp [go_sem, g6]
            refine gen_call ?_
            intro W2 hW2
            replace own := own_above own (by rw [hW2]; exact Upd.setB (Upd.refl (fun x => x = b) _) _ _ (fun _ => rfl) : Upd (fun x => x = b) W1 W2) (fun i h => by subst h; exact lt.1)
            replace g := g.set _ hc hst hW2
            clear hW2 hc hst
            refine CallP.mono (talkEnd g.rd) ?_
            have hne := g.rd.ne
            rintro v W1 ⟨rfl, u, stE, I⟩
            replace own := own_above own u (fun i h => by subst h; exact lt.1)
            replace g := g.read u I
            clear u I
            have G := (askF0).of_rd (ask0_of R1 RD RA) hne
            obtain ⟨a, e, hc, hst⟩ := g.rd.cell
            by_cases hf : finE (st2) = 0
            · rw [if_pos hf] at G
              simp [go_sem, hf, hc, g.res, g4, g6]
              refine ⟨g.rd.u.setB _ _ (fun h => absurd h (by have := g.ne; omega)), ?_⟩
              rw [G]
              exact ⟨_, rfl, rfl, own_base (own_above own (Upd.setB (Upd.refl (fun x => x = rb) _) _ _ (fun _ => rfl)) (fun i h => by subst h; exact lt.2.1)) (Nat.le_of_lt lt.2.1), nil_own _ _, nilL _ _⟩
            · rw [if_neg hf] at G
              simp [go_sem, hf, g.res, g4, g6]
              exact ⟨g.rd.u.setB _ _ (fun h => absurd h (by have := g.ne; omega)), by rw [G]; rfl⟩
    · have hm : (n : Int) ≤ 16 := by omega
      have R1 : Rd (mostC 2 16 3) (.ok l) (.ok r) (n : Int) := by
        have := chk_st (m := 16) (e := 3) RN (y := (n : Int)) (fun _ => rfl)
        simp only [chkSt, hm, decide_true, decide_false, if_true, if_false, Bool.false_eq_true] at this
        exact this
      simp [go_sem, hc, h16]
      refine den_loop (DiaT w rb b p cap l (.ok r) n n0) n ?_ ?_
      · exact ⟨0, [], _, ⟨none, 0, 0⟩, rfl, by omega, rfl, RdL.start, by simp [go_sem], by simp [go_sem], by simp [go_sem], by simp [go_sem], g, nilW _ _, hn1⟩
      clear g hc hst
      rintro m ρ W ⟨i, L, st, d, rfl, hi, hL, RL, g7, g8, g4, g6, g, own, hnl⟩
      by_cases hrun : i < n ∧ ∃ r, st = .ok r
      · obtain ⟨hin, r, hst⟩ := hrun
        have hin' : (i : Int) < n := by omega
        obtain ⟨a, e, hc, hso⟩ := g.rd.cell
        rw [hst] at hso
        obtain ⟨rfl, _⟩ := hso
        have hwr : IntKind.u64.wrap ((i : Int) + 1) = ((i + 1 : Nat) : Int) := by rw [wrap64 (by omega) (by omega)]; omega
        simp [go_sem, g7, g8, g4, g6, hin', hin, hc]
        refine Go.Eng.Ch.draw_script [.pure 0, .pure 1, .pure 6, .chain [2, 3, 4, 5, 7, 8] [9, 10, 11], .one 12, .one 13, .pure 14, .pure 15, .one 16] (by kernel_rfl) (by kernel_rfl) (by kernel_rfl) ?_
        simp [go_sem, g6]
        obtain ⟨A, hA⟩ : ∃ A : AskV, A = { zeroA with dialects := d } := ⟨_, rfl⟩
        have hAd : A.dialects = d := by rw [hA]
        rw [← hA] at g hc
        have hS0 : RdS0 b p cap l A W.drew := ⟨_, _, hc⟩
        haveI : Nonempty { W : World // RdS0 b p cap l A W } := ⟨⟨W.drew, hS0⟩⟩
        have g := g.keep (Upd.refl noB W).drew
        have own := own_keep0 own (Upd.refl noB W).drew
        refine Go.Eng.Ch.opsPh_chain _ _ _ hS0 ?_
        have ql := Q_load_fix (P := Tryz.prog) (W := fun i : { W : World // RdS0 b p cap l A W } => i.1) (fun i => i.2.load)
        simp [go_sem, ql, hAd]
        refine CallP.mono (talkN (k := 2) (by decide) g.rd) ?_
        rintro v W1 ⟨x, rfl, p2, q2, u, st2, I, R⟩
        have hx : IntKind.u16.wrap x = x := wrap16 p2 q2
        replace g := g.read u I
        replace own := own_above own u (fun i h => by subst h; exact lt.1)
        have hn2 : n0 ≤ W1.heap.size := Nat.le_trans hnl u.size
        obtain ⟨a1, e1, hc1, hst1⟩ := g.rd.cell
        have hS1 : RdS0 b p cap l A W1 := ⟨_, _, hc1⟩
        simp [go_sem, Go.Eng.Ch.contJ_app hS1, hx]
        have hb1 := slU16.build1K (w := W1) (u16V x) rfl (by decide)
        simp only [Value.cells, u16V] at hb1
        have gd := g.keep ((Upd.refl noB W1).alloc (.cells #[.int .u16 x] 22))
        obtain ⟨a3, e3, hc3, hst3⟩ := gd.rd.cell
        have hS2 : RdS0 b p cap l A (W1.alloc (.cells #[.int .u16 x] 22)) := ⟨_, _, hc3⟩
        obtain ⟨v', W2, hrun, own2, u2⟩ := sl_pushR slU16 own [u16V x] rfl (by intro u hu; simp at hu; subst hu; rfl) 29 (by omega) (by simp [maxLen]; omega) hn2
        simp only [u16V] at hrun
        simp [hb1, go_sem, Go.Eng.Ch.contJ_app hS2, K_append_ok _ _ _ _ hrun]
        have g2 := g.keepN lt u2
        obtain ⟨d2p, d2n, d2c, rfl⟩ : ∃ p n c, v' = .slice p n c := by
          obtain ⟨q, c, h⟩ := (RowAt.of_own own2).len
          exact ⟨q, _, c, h⟩
        obtain ⟨a2, e2, hc2, hst2⟩ := g2.rd.cell
        simp [go_sem, g4, g6, g7, g8, hwr, hc2]
        have hA2 : ({ A with dialects := ⟨d2p, d2n, d2c⟩ } : AskV) = { zeroA with dialects := ⟨d2p, d2n, d2c⟩ } := by rw [hA]
        refine ⟨n - (i + 1), by omega, i + 1, L ++ [x], st2, ⟨d2p, d2n, d2c⟩, rfl, by omega, by simp [hL], RL.step hin R, by simp [go_sem, g7], by simp [go_sem], by simp [go_sem, g4], by simp [go_sem, g6], g2.set _ hc2 hst2 (by rw [← hA2]), ?_, ?_⟩
        · have o := own_above own2 (Upd.setB (Upd.refl (fun x => x = b) W2) b (.cells (rdC (.slice p l.length cap) a2 e2 (AskV.cells { A with dialects := ⟨d2p, d2n, d2c⟩ }).toList) 161) (fun _ => rfl)) (fun i h => by subst h; exact lt.1)
          unfold OwnW
          rw [List.length_append, List.map_append]
          exact o
        · rw [size_setB]
          exact Nat.le_trans hn2 u2.size
      · by_cases hin : i < n
        · have hin' : (i : Int) < n := by omega
          obtain ⟨a, e, hc, hso⟩ := g.rd.cell
          cases st with
          | ok r => exact absurd ⟨hin, r, rfl⟩ hrun
          | error z =>
            obtain ⟨rfl, hz⟩ := hso
            have RD := RL.err
            simp [go_sem, g7, g8, g4, g6, hin', hin, hc, hz]
            obtain ⟨st, hste⟩ : ∃ st : Except Int (List UInt8), st = .error e := ⟨_, rfl⟩
            rw [← hste] at g RD
            refine draw_script [.pure 0, .pure 5, .held [1, 2, 3, 4, 6, 7] 8, .one 9] (by kernel_rfl) (by kernel_rfl) (by kernel_rfl) ?_
            simp [go_sem, g6]
            haveI : Nonempty { W : World // TrueS W } := ⟨⟨W, trivial⟩⟩
            refine opsPh_held _ _ TrueS trivial ?_
            simp [go_sem]
            replace g := g.keep (Upd.refl noB _).drew
            replace own := own_keep0 own (Upd.refl noB _).drew
            refine CallP.mono (talkPart (k := 16) (by decide) g.rd) ?_
            rintro v W1 ⟨B, ownB, hL', u, st2, I, R2⟩
            replace own := own_above own u (fun i h => by subst h; exact lt.1)
            replace g := g.read u I
            clear u I
            obtain ⟨pd, cd, rfl, hcd⟩ := ownB.at.len
            have hL := bytes_len R2 hL'
            obtain ⟨a, e, hc, hst⟩ := g.rd.cell
            refine ⟨trivial, ?_⟩
            simp [go_sem]
            rcases hL with rfl | hL
            · simp [go_sem, K_copy_zero, g6]
              have RA : Rd (arrC 16) st st2 (zArr 16) := arr_of R2 (fun h => by simp at h)
              refine CallP.mono (talkEnd g.rd) ?_
              have hne := g.rd.ne
              rintro v W1 ⟨rfl, u, stE, I⟩
              replace own := own_above own u (fun i h => by subst h; exact lt.1)
              replace g := g.read u I
              clear u I
              have G := (askF0).of_rd (ask0_of R1 RD RA) hne
              obtain ⟨a, e, hc, hst⟩ := g.rd.cell
              by_cases hf : finE (st2) = 0
              · rw [if_pos hf] at G
                simp [go_sem, hf, hc, g.res, g4, g6]
                refine ⟨g.rd.u.setB _ _ (fun h => absurd h (by have := g.ne; omega)), ?_⟩
                rw [G]
                exact ⟨_, rfl, rfl, own_base (own_above own (Upd.setB (Upd.refl (fun x => x = rb) _) _ _ (fun _ => rfl)) (fun i h => by subst h; exact lt.2.1)) (Nat.le_of_lt lt.2.1), nil_own _ _, nilL _ _⟩
              · rw [if_neg hf] at G
                simp [go_sem, hf, g.res, g4, g6]
                exact ⟨g.rd.u.setB _ _ (fun h => absurd h (by have := g.ne; omega)), by rw [G]; rfl⟩
            · rw [K_copy_bytes (l := B) ownB.at (by omega) hc (by rw [rdC_size, rdA_size]; omega) hL.symm, rdA_guid _ _ _ _ ⟨B, hL⟩]
              have RA : Rd (arrC 16) st st2 ⟨B, hL⟩ := arr_of R2 (fun h => rfl)
              simp [go_sem, g6]
              refine gen_call ?_
              intro W2 hW2
              replace own := own_above own (by rw [hW2]; exact Upd.setB (Upd.refl (fun x => x = b) _) _ _ (fun _ => rfl) : Upd (fun x => x = b) W1 W2) (fun i h => by subst h; exact lt.1)
              replace g := g.set _ hc hst hW2
              clear hW2 hc hst
              refine CallP.mono (talkEnd g.rd) ?_
              have hne := g.rd.ne
              rintro v W1 ⟨rfl, u, stE, I⟩
              replace own := own_above own u (fun i h => by subst h; exact lt.1)
              replace g := g.read u I
              clear u I
              have G := (askF0).of_rd (ask0_of R1 RD RA) hne
              obtain ⟨a, e, hc, hst⟩ := g.rd.cell
              by_cases hf : finE (st2) = 0
              · rw [if_pos hf] at G
                simp [go_sem, hf, hc, g.res, g4, g6]
                refine ⟨g.rd.u.setB _ _ (fun h => absurd h (by have := g.ne; omega)), ?_⟩
                rw [G]
                exact ⟨_, rfl, rfl, own_base (own_above own (Upd.setB (Upd.refl (fun x => x = rb) _) _ _ (fun _ => rfl)) (fun i h => by subst h; exact lt.2.1)) (Nat.le_of_lt lt.2.1), nil_own _ _, nilL _ _⟩
              · rw [if_neg hf] at G
                simp [go_sem, hf, g.res, g4, g6]
                exact ⟨g.rd.u.setB _ _ (fun h => absurd h (by have := g.ne; omega)), by rw [G]; rfl⟩
        · have hi' : i = n := by omega
          subst hi'
          have RD := RL.done
          simp [go_sem, g7, g8, g4, g6]
          refine draw_script [.pure 0, .pure 5, .held [1, 2, 3, 4, 6, 7] 8, .one 9] (by kernel_rfl) (by kernel_rfl) (by kernel_rfl) ?_
          simp [go_sem, g6]
          haveI : Nonempty { W : World // TrueS W } := ⟨⟨W, trivial⟩⟩
          refine opsPh_held _ _ TrueS trivial ?_
          simp [go_sem]
          replace g := g.keep (Upd.refl noB _).drew
          replace own := own_keep0 own (Upd.refl noB _).drew
          refine CallP.mono (talkPart (k := 16) (by decide) g.rd) ?_
          rintro v W1 ⟨B, ownB, hL', u, st2, I, R2⟩
          replace own := own_above own u (fun i h => by subst h; exact lt.1)
          replace g := g.read u I
          clear u I
          obtain ⟨pd, cd, rfl, hcd⟩ := ownB.at.len
          have hL := bytes_len R2 hL'
          obtain ⟨a, e, hc, hst⟩ := g.rd.cell
          refine ⟨trivial, ?_⟩
          simp [go_sem]
          rcases hL with rfl | hL
          · simp [go_sem, K_copy_zero, g6]
            have RA : Rd (arrC 16) st st2 (zArr 16) := arr_of R2 (fun h => by simp at h)
            refine CallP.mono (talkEnd g.rd) ?_
            have hne := g.rd.ne
            rintro v W1 ⟨rfl, u, stE, I⟩
            replace own := own_above own u (fun i h => by subst h; exact lt.1)
            replace g := g.read u I
            clear u I
            have G := (askF0).of_rd (ask0_of R1 RD RA) hne
            obtain ⟨a, e, hc, hst⟩ := g.rd.cell
            by_cases hf : finE (st2) = 0
            · rw [if_pos hf] at G
              simp [go_sem, hf, hc, g.res, g4, g6]
              refine ⟨g.rd.u.setB _ _ (fun h => absurd h (by have := g.ne; omega)), ?_⟩
              rw [G]
              exact ⟨_, rfl, rfl, own_base (own_above own (Upd.setB (Upd.refl (fun x => x = rb) _) _ _ (fun _ => rfl)) (fun i h => by subst h; exact lt.2.1)) (Nat.le_of_lt lt.2.1), nil_own _ _, nilL _ _⟩
            · rw [if_neg hf] at G
              simp [go_sem, hf, g.res, g4, g6]
              exact ⟨g.rd.u.setB _ _ (fun h => absurd h (by have := g.ne; omega)), by rw [G]; rfl⟩
          · rw [K_copy_bytes (l := B) ownB.at (by omega) hc (by rw [rdC_size, rdA_size]; omega) hL.symm, rdA_guid _ _ _ _ ⟨B, hL⟩]
            have RA : Rd (arrC 16) st st2 ⟨B, hL⟩ := arr_of R2 (fun h => rfl)
            simp [go_sem, g6]
            refine gen_call ?_
            intro W2 hW2
            replace own := own_above own (by rw [hW2]; exact Upd.setB (Upd.refl (fun x => x = b) _) _ _ (fun _ => rfl) : Upd (fun x => x = b) W1 W2) (fun i h => by subst h; exact lt.1)
            replace g := g.set _ hc hst hW2
            clear hW2 hc hst
            refine CallP.mono (talkEnd g.rd) ?_
            have hne := g.rd.ne
            rintro v W1 ⟨rfl, u, stE, I⟩
            replace own := own_above own u (fun i h => by subst h; exact lt.1)
            replace g := g.read u I
            clear u I
            have G := (askF0).of_rd (ask0_of R1 RD RA) hne
            obtain ⟨a, e, hc, hst⟩ := g.rd.cell
            by_cases hf : finE (st2) = 0
            · rw [if_pos hf] at G
              simp [go_sem, hf, hc, g.res, g4, g6]
              refine ⟨g.rd.u.setB _ _ (fun h => absurd h (by have := g.ne; omega)), ?_⟩
              rw [G]
              exact ⟨_, rfl, rfl, own_base (own_above own (Upd.setB (Upd.refl (fun x => x = rb) _) _ _ (fun _ => rfl)) (fun i h => by subst h; exact lt.2.1)) (Nat.le_of_lt lt.2.1), nil_own _ _, nilL _ _⟩
            · rw [if_neg hf] at G
              simp [go_sem, hf, g.res, g4, g6]
              exact ⟨g.rd.u.setB _ _ (fun h => absurd h (by have := g.ne; omega)), by rw [G]; rfl⟩
end Go.Proofs.YtinfdomlpbikaaaGreatDoor
