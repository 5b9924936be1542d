/-
  Get, of a message of nothing but a head.
-/
import Derived.Test.YtinfdomlpbikaaaGreatDoorMsgC
namespace Go.Proofs.YtinfdomlpbikaaaGreatDoor
open Go.Eng
set_option linter.unusedSimpArgs false
set_option linter.unusedVariables false
set_option maxRecDepth 100000
variable {w w0 : World}
/-- an askReader's block: its bytes, its place, its error, its Ask -/
structure RdV where
  b : SlV
  at_ : Int
  e : Int
  ask : AskV
def RdV.row (r : RdV) : List Value := [.slice r.b.p r.b.n r.b.cap, .int .i64 r.at_, .int .i64 r.e] ++ r.ask.row
def RdV.cells (r : RdV) : Array Value := r.row.toArray
theorem RdV.row_len (r : RdV) : r.row.length = 72 := by simp [RdV.row, AskV.row_len]
@[go_sem] theorem RdV.size (r : RdV) : r.cells.size = 72 := by show r.row.length = 72; exact r.row_len
@[go_sem] theorem rdq0 (r : RdV) : r.cells[0]? = some (.slice r.b.p r.b.n r.b.cap) := by rw [show r.cells = r.row.toArray from rfl, List.getElem?_toArray]; simp [RdV.row]
@[go_sem] theorem rdq1 (r : RdV) : r.cells[1]? = some (.int .i64 r.at_) := by rw [show r.cells = r.row.toArray from rfl, List.getElem?_toArray]; simp [RdV.row]
@[go_sem] theorem rdq2 (r : RdV) : r.cells[2]? = some (.int .i64 r.e) := by rw [show r.cells = r.row.toArray from rfl, List.getElem?_toArray]; simp [RdV.row]
@[go_sem] theorem rdg0 (r : RdV) (hp : 0 < r.cells.size) : r.cells[0] = .slice r.b.p r.b.n r.b.cap := Option.some.inj ((Array.getElem?_eq_getElem hp).symm.trans (rdq0 r))
@[go_sem] theorem rdg1 (r : RdV) (hp : 1 < r.cells.size) : r.cells[1] = .int .i64 r.at_ := Option.some.inj ((Array.getElem?_eq_getElem hp).symm.trans (rdq1 r))
@[go_sem] theorem rdg2 (r : RdV) (hp : 2 < r.cells.size) : r.cells[2] = .int .i64 r.e := Option.some.inj ((Array.getElem?_eq_getElem hp).symm.trans (rdq2 r))
@[go_sem] theorem rds1 (r : RdV) (z : Int) : r.cells.setIfInBounds 1 (.int .i64 z) = { r with at_ := z }.cells := by
  apply Array.toList_inj.1
  rw [Array.toList_setIfInBounds]
  show r.row.set 1 _ = _
  simp [RdV.cells, RdV.row]
@[go_sem] theorem rds2 (r : RdV) (z : Int) : r.cells.setIfInBounds 2 (.int .i64 z) = { r with e := z }.cells := by
  apply Array.toList_inj.1
  rw [Array.toList_setIfInBounds]
  show r.row.set 2 _ = _
  simp [RdV.cells, RdV.row]
@[go_sem high] theorem rd_cut (r : RdV) (t : TypeId) (f : Nat × Nat) : cutIn (some (.cells r.cells t f)) 3 69 = some r.ask.row := by
  have h := cut_part (r := r.row) (a := [.slice r.b.p r.b.n r.b.cap, .int .i64 r.at_, .int .i64 r.e]) (b := r.ask.row) (c := []) t f (by simp [RdV.row])
  rw [AskV.row_len] at h
  exact h
@[go_sem] theorem rds0 (r : RdV) (p : Option Addr) (n c : Nat) : r.cells.setIfInBounds 0 (.slice p n c) = { r with b := ⟨p, n, c⟩ }.cells := by
  apply Array.toList_inj.1
  rw [Array.toList_setIfInBounds]
  show r.row.set 0 _ = _
  simp [RdV.cells, RdV.row]
def zeroR : RdV := ⟨⟨none, 0, 0⟩, 0, 0, zeroA⟩
@[go_sem high] theorem zc_rd : Tryz.zeroCells161 = zeroR.cells := (rfl)
def RdAt (W : World) (b : Nat) (r : RdV) : Prop := W.heap[b]? = some (.cells r.cells 161 (0, 0))
/-- a reader's number -/
theorem rdN_any {b : Nat} {r : RdV} {l : List UInt8} (hr : RdAt w b r) (hb : BytesAt w (.slice r.b.p r.b.n r.b.cap) l) (hl : l.length ≤ 9223372036854775000) (a k : Nat) (ha : r.at_ = (a : Int)) (he : r.e = 0) (hk : sizeOk k) (h : a + k ≤ l.length) :
    CallP Tryz.prog 151 #[.pointer (some ⟨b, 0, none⟩), .int .i64 k] w (fun v w' => v = .int .u64 (numAt l a k) ∧ Upd (fun x => x = b) w w' ∧ RdAt w' b { r with at_ := (a : Int) + k }) := by
  have hr' := hr
  unfold RdAt at hr'
  have hn : r.b.n = l.length := by
    obtain ⟨p, cap, e, _⟩ := hb.len
    injection e
  have hw1 : IntKind.i64.wrap ((l.length : Int) - a) = (l.length : Int) - a := wrap64_id (by omega) (by omega)
  have hw2 : IntKind.i64.wrap ((a : Int) + k) = (a : Int) + k := wrap64_id (by omega) (by omega)
  have n1 : ¬ (l.length : Int) - a < k := by omega
  refine call_den (args := [_, _]) Tryz.func151 rfl rfl (by simp [Tryz.ntmps151]) ?_
  simp [go_sem, hr', he]
  refine draw_script [.pure 0, .pure 5, .pure 10, .still [1, 2, 3, 4, 6, 7, 8], .one 9, .one 11] (by kernel_rfl) (by kernel_rfl) (by kernel_rfl) ?_
  simp [go_sem, hr', ha, hn, hw1, n1]
  refine draw_script [.pure 0, .pure 4, .pure 8, .still [1, 2, 3, 5, 6, 7], .one 9, .pure 10, .still [11, 12, 13], .pure 14] (by kernel_rfl) (by kernel_rfl) (by kernel_rfl) ?_
  simp [go_sem, hr', ha]
  have ud : Upd noB w w.drew.drew := (Upd.refl _ _).drew.drew
  refine CallP.mono (endsGet_any (hb.keep0 ud) (by omega) a k h hk) ?_
  rintro v W ⟨rfl, hW⟩
  have hu : Upd (fun x => x = b) w W := by rw [hW]; exact (Upd.refl _ _).drew.drew
  have hrW : W.heap[b]? = some (.cells r.cells 161 (0, 0)) := by rw [hW]; exact hr'
  clear hW
  simp [go_sem, hrW, ha, hw2]
  refine ⟨rfl, hu.setB _ _ (fun _ => rfl), ?_⟩
  unfold RdAt
  rw [heap_setB, if_pos rfl, hrW]
  simp only [Option.map_some, he]
theorem rdZero_any {b : Nat} {r : RdV} {l : List UInt8} (hr : RdAt w b r) (hb : BytesAt w (.slice r.b.p r.b.n r.b.cap) l) (hl : l.length ≤ 9223372036854775000) (a k : Nat) (ha : r.at_ = (a : Int)) (he : r.e = 0) (hk : sizeOk k) (h : a + k ≤ l.length) (hz : numAt l a k = 0) :
    CallP Tryz.prog 154 #[.pointer (some ⟨b, 0, none⟩), .int .i64 k] w (fun v w' => Upd (fun x => x = b) w w' ∧ RdAt w' b { r with at_ := (a : Int) + k }) := by
  refine call_den (args := [_, _]) Tryz.func154 rfl rfl (by simp [Tryz.ntmps154]) ?_
  simp [go_sem]
  refine CallP.mono (rdN_any hr hb hl a k ha he hk h) ?_
  rintro v W ⟨rfl, hu, hrW⟩
  simp [go_sem, hz]
  exact ⟨hu, hrW⟩
theorem rdEnd_any {b : Nat} {r : RdV} (hr : RdAt w b r) (he : r.e = 0) :
    CallP Tryz.prog 155 #[.pointer (some ⟨b, 0, none⟩)] w (fun v w' => v = .int .i64 (if r.at_ = r.b.n then 0 else 5) ∧ Upd (fun x => x = b) w w' ∧ RdAt w' b (if r.at_ = r.b.n then r else { r with e := 5 })) := by
  have hr' := hr
  unfold RdAt at hr'
  refine call_den (args := [_]) Tryz.func155 rfl rfl (by simp [Tryz.ntmps155]) ?_
  simp [go_sem]
  refine draw_script [.pure 0, .one 1, .pure 2, .one 3, .one 4, .pure 5, .pure 6, .pure 10, .still [7, 8, 9, 11, 12, 13, 14], .one 15, .one 16] (by kernel_rfl) (by kernel_rfl) (by kernel_rfl) ?_
  by_cases h : r.at_ = r.b.n
  · simp [go_sem, hr', he, h]
    exact ⟨(Upd.refl _ _).drew, hr'⟩
  · simp [go_sem, hr', he, h]
    refine ⟨(Upd.refl _ _).drew.setB _ _ (fun _ => rfl), ?_⟩
    unfold RdAt
    rw [heap_setB, if_pos rfl]
    have hd : w.drew.heap[b]? = some (.cells r.cells 161 (0, 0)) := hr'
    rw [hd]
    rfl
theorem rdEnd_ok {b : Nat} {r : RdV} (hr : RdAt w b r) (he : r.e = 0) (h : r.at_ = r.b.n) : CallP Tryz.prog 155 #[.pointer (some ⟨b, 0, none⟩)] w (fun v w' => v = .int .i64 0 ∧ Upd (fun x => x = b) w w' ∧ RdAt w' b r) := by
  refine CallP.mono (rdEnd_any hr he) ?_
  rintro v w' ⟨h1, h2, h3⟩
  rw [if_pos h] at h1 h3
  exact ⟨h1, h2, h3⟩
theorem rdEnd_bad {b : Nat} {r : RdV} (hr : RdAt w b r) (he : r.e = 0) (h : ¬ r.at_ = r.b.n) : CallP Tryz.prog 155 #[.pointer (some ⟨b, 0, none⟩)] w (fun v w' => v = .int .i64 5 ∧ Upd (fun x => x = b) w w') := by
  refine CallP.mono (rdEnd_any hr he) ?_
  rintro v w' ⟨h1, h2, h3⟩
  rw [if_neg h] at h1
  exact ⟨h1, h2⟩
set_option maxHeartbeats 2000000 in
theorem getAsk_echo {s : Value} {l : List UInt8} (hb : BytesAt w s l) (hl : 4 ≤ l.length) (hl2 : l.length ≤ 9223372036854775000) (hz : numAt l 0 4 = 0) :
    CallP Tryz.prog 93 #[.int .u16 13, s] w (fun r w' => r = .tuple #[.agg zeroA.cells, .int .i64 (if l.length = 4 then 0 else 5)] ∧ Upd noB w w') := by
  obtain ⟨p, cap, rfl, hcap⟩ := hb.len
  refine call_den (args := [_, _]) Tryz.func93 rfl rfl (by simp [Tryz.ntmps93]) ?_
  simp [go_sem]
  refine CallP.mono (talkKnown_echo _) ?_
  rintro r W ⟨rfl, hW⟩
  have hu : Upd noB w W := by rw [hW]; exact (by repeat (first | exact Upd.refl _ _ | refine Upd.alloc ?_ _ | refine Upd.drew ?_ | refine Upd.drewN ?_ _ | refine Upd.setB ?_ _ _ (fun h => absurd h (by omega))))
  have h0 : W.heap[w.heap.size]? = some (.cells zeroA.cells 34 (0, 0)) := by rw [hW, heap_alloc, if_pos rfl]
  clear hW
  simp [go_sem]
  refine gen_call ?_
  intro W2 hW2
  obtain ⟨r, hr⟩ : ∃ r : RdV, r = ⟨⟨p, l.length, cap⟩, 0, 0, zeroA⟩ := ⟨_, rfl⟩
  have hu2 : Upd noB w W2 := by rw [hW2]; exact hu.alloc _
  have hr2 : RdAt W2 W.heap.size r := by unfold RdAt; rw [hW2, heap_alloc, if_pos rfl, hr]; rfl
  have hne : W.heap.size ≠ w.heap.size := fun e => by have := (old_ne h0).1; omega
  have h02 : W2.heap[w.heap.size]? = some (.cells zeroA.cells 34 (0, 0)) := by rw [hW2, heap_alloc, if_neg (fun e => hne e.symm)]; exact h0
  have hbn : w.heap.size ≤ W.heap.size := hu.size
  clear hW2
  generalize W.heap.size = b at *
  refine CallP.mono (rdZero_any (l := l) hr2 (by rw [hr]; exact hb.keep0 hu2) hl2 0 4 (by rw [hr]; rfl) (by rw [hr]) (by decide) (by omega) hz) ?_
  rintro v W3 ⟨u3, hr3⟩
  have hu3 : Upd noB w W3 := hu2.trans' u3 (fun i hi hlt => by omega)
  have h03 := u3.get h02 (fun e => hne e.symm)
  simp [go_sem]
  have hbl : r.b.n = l.length := by rw [hr]
  by_cases h4 : l.length = 4
  · refine CallP.mono (rdEnd_ok hr3 (by rw [hr]) (by show (0 : Int) + 4 = r.b.n; rw [hbl, h4]; rfl)) ?_
    rintro v W4 ⟨rfl, u4, hr4⟩
    have hu4 : Upd noB w W4 := hu3.trans' u4 (fun i hi hlt => by omega)
    have h04 := u4.get h03 (fun e => hne e.symm)
    unfold RdAt at hr4
    have hra : r.ask = zeroA := by rw [hr]
    simp [go_sem, hr4, h04, h4, hra]
    exact hu4.setB _ _ (fun h => absurd h (by omega))
  · refine CallP.mono (rdEnd_bad hr3 (by rw [hr]) (by show ¬ (0 : Int) + 4 = r.b.n; rw [hbl]; omega)) ?_
    rintro v W4 ⟨rfl, u4⟩
    have hu4 : Upd noB w W4 := hu3.trans' u4 (fun i hi hlt => by omega)
    have h04 := u4.get h03 (fun e => hne e.symm)
    simp [go_sem, h04, h4]
    exact hu4.setB _ _ (fun h => absurd h (by omega))
def CodecAt (W : World) (bx : Nat) : Prop := W.heap[bx]? = some (.cells #[.func (.func 92) #[] #[], .func (.func 93) #[] #[], .func (.func 94) #[] #[], .func (.func 95) #[] #[]] 92 (0, 0))
def RdS (bx b : Nat) (m : MsgV) (W : World) : Prop := CodecAt W bx ∧ MsgAt W b m
def AnyS (W : World) : Prop := True
set_option maxHeartbeats 4000000 in
theorem read_echo {b : Nat} {m : MsgV} {s : Value} {l : List UInt8} (hm : MsgAt w b m) (hf : 0 ≤ m.head.flags ∧ m.head.flags < 4294967296) (hc : m.head.command = 13) (hrep : ¬ hasF m.head.flags 1) (hb : BytesAt w s l) (hl : 4 ≤ l.length) (hl2 : l.length ≤ 9223372036854775000) (hz : numAt l 0 4 = 0) :
    CallP Tryz.prog 44 #[.pointer (some ⟨b, 0, none⟩), s] w (fun r w' => r = .int .i64 (if l.length = 4 then 0 else 5) ∧ Upd (fun x => x = b) w w' ∧ MsgAt w' b { m with ask := zeroA }) := by
  obtain ⟨p, cap, rfl, hcap⟩ := hb.len
  have hm' := hm
  unfold MsgAt at hm'
  refine call_den (args := [_, _]) Tryz.func44 rfl rfl (by simp [Tryz.ntmps44]) ?_
  simp [go_sem, hm', hc]
  refine CallP.mono (by_talk _) ?_
  rintro r W ⟨rfl, u1⟩
  simp [go_sem]
  refine gen_call ?_
  intro W1 hW1
  have hu : Upd noB w W1 := by rw [hW1]; exact (u1.alloc _).setB _ _ (fun h => absurd h (by have := u1.size; omega))
  have hx : W1.heap[W.heap.size]? = some (.cells #[.func (.func 92) #[] #[], .func (.func 93) #[] #[], .func (.func 94) #[] #[], .func (.func 95) #[] #[]] 92 (0, 0)) := by
    rw [hW1, heap_setB, if_pos rfl, heap_alloc, if_pos rfl]; rfl
  obtain ⟨bx, hbx⟩ : ∃ bx, bx = W.heap.size := ⟨_, rfl⟩
  have hbw : w.heap.size ≤ bx := by rw [hbx]; exact u1.size
  rw [← hbx] at hx ⊢
  have hm1 : MsgAt W1 b m := hu.get hm (by simp [noB])
  clear hW1 u1 hbx
  refine CallP.mono (msgFault_any hm1 hf) ?_
  rintro r W2 ⟨rfl, hW2⟩
  rw [hW2]; clear hW2; clear W2
  simp [go_sem, hrep]
  refine CallP.mono (msgReply_any hm1 hf) ?_
  rintro r W2 ⟨rfl, hW2⟩
  rw [hW2]; clear hW2; clear W2
  simp [go_sem, hrep]
  refine CallP.mono (msgReply_any hm1 hf) ?_
  rintro r W2 ⟨rfl, hW2⟩
  rw [hW2]; clear hW2; clear W2
  simp [go_sem, hrep]
  have hS0 : RdS bx b m W1.drew := ⟨hx, hm1⟩
  have hud : Upd noB w W1.drew := hu.drew
  refine draw_script [.pure 0, .pure 1, .pure 3, .pure 8, .held [2, 4, 5, 6, 7] 9, .pure 10, .held [11, 12, 13, 14] 15, .pure 16] (by kernel_rfl) (by kernel_rfl) (by kernel_rfl) ?_
  simp [go_sem]
  haveI : Nonempty { W : World // RdS bx b m W } := ⟨⟨W1.drew, hS0⟩⟩
  have q1 : ∀ i : { W : World // RdS bx b m W }, i.1.heap[bx]? = some (.cells #[.func (.func 92) #[] #[], .func (.func 93) #[] #[], .func (.func 94) #[] #[], .func (.func 95) #[] #[]] 92 (0, 0)) := fun i => i.2.1
  have q2 : ∀ i : { W : World // RdS bx b m W }, i.1.heap[b]? = some (.cells m.cells 66 (0, 0)) := fun i => i.2.2
  refine opsPh_held _ _ (RdS bx b m) hS0 ?_
  simp [go_sem, q1, q2, hc]
  refine CallP.mono (getAsk_echo (hb.keep0 hud) hl hl2 hz) ?_
  rintro r W3 ⟨rfl, u3⟩
  have hm3 : MsgAt W3 b m := u3.get hm1 (by simp [noB])
  have hu3 := hud.trans u3
  refine ⟨⟨u3.get hx (by simp [noB]), hm3⟩, ?_⟩
  simp [go_sem]
  haveI : Nonempty { W : World // AnyS W } := ⟨⟨W3, trivial⟩⟩
  refine opsPh_held _ _ AnyS trivial ?_
  have hm3' := hm3
  unfold MsgAt at hm3'
  simp [go_sem, hm3']
  refine ⟨trivial, ?_⟩
  have hput : MsgAt (W3.setB b (.cells { m with ask := zeroA }.cells 66)) b { m with ask := zeroA } := by
    unfold MsgAt
    rw [heap_setB, if_pos rfl, hm3']
    rfl
  have hus : Upd (fun x => x = b) w (W3.setB b (.cells { m with ask := zeroA }.cells 66)) := (hu3.mono (fun _ _ h => h.elim)).setB _ _ (fun _ => rfl)
  exact ⟨hus, hput⟩
end Go.Proofs.YtinfdomlpbikaaaGreatDoor
