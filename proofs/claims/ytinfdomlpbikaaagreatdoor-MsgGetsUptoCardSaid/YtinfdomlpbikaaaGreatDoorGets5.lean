/-
  What is asked and said of files, got by the document (printed by getgen.py).
  What is asked and said of files, got by the program (printed by getgen.py).
  What is asked and told about files, got by the document (printed by getgen.py).
  What is asked and told about files, got by the program (printed by getgen.py).
-/
import Derived.Test.YtinfdomlpbikaaaGreatDoorGets4
namespace Go.Proofs.YtinfdomlpbikaaaGreatDoor
open Go.Eng Go.Lib
set_option linter.unusedSimpArgs false
set_option linter.unusedVariables false
set_option maxRecDepth 100000
variable {w w0 : World}
set_option maxHeartbeats 1000000 in
theorem ref09GetAsk5 {s : Value} {l : List UInt8} (hb : BytesAt w s l) (hl : l.length ≤ 1099511627776) : CallP Tryz.prog 74 #[.int .u16 5, s] w (fun r w' => Upd noB w w' ∧ AskRes w' w.heap.size r (askF5.get l)) := by
  obtain ⟨p, cap, rfl, hcap⟩ := hb.len
  refine call_den (args := [_, _]) Tryz.func74 rfl rfl (by simp [Tryz.ntmps74]) ?_
  simp [go_sem]
  refine CallP.mono (known9_any _ _) ?_
  rintro r W ⟨rfl, hW⟩
  have hu : Upd noB w W := by rw [hW]; exact (by repeat (first | exact Upd.refl _ _ | refine Upd.alloc ?_ _ | refine Upd.drew ?_ | refine Upd.drewN ?_ _ | refine Upd.setB ?_ _ _ (fun h => absurd h (by omega))))
  have h0 : W.heap[w.heap.size]? = some (.cells zeroA.cells 34 (0, 0)) := by rw [hW, heap_alloc, if_pos rfl]
  clear hW
  simp [go_sem, known9]
  refine gen_call ?_
  intro W2 hW2
  have g := GS.start (T := 123) hb hl hu h0 hW2
  clear hW2 h0 hu
  generalize W.heap.size = b at *
  generalize w.heap.size = rb at *
  clear W
  revert W2
  intro W g
  refine CallP.mono (refN (k := 4) (by decide) g.rd) ?_
  rintro v W1 ⟨x1, rfl, p1, q1, u, st1, I, R1⟩
  replace g := g.read u I
  clear u I
  have c1 : IntKind.u32.wrap x1 = x1 := wrap32 p1 q1
  simp [go_sem, g.ask, c1]
  refine gen_call ?_
  intro W2 hW2
  replace g := g.set _ hW2
  clear hW2
  refine CallP.mono (refN (k := 4) (by decide) g.rd) ?_
  rintro v W1 ⟨x2, rfl, p2, q2, u, st2, I, R2⟩
  replace g := g.read u I
  clear u I
  have c2 : IntKind.u32.wrap x2 = x2 := wrap32 p2 q2
  simp [go_sem, g.ask, c2]
  refine gen_call ?_
  intro W2 hW2
  replace g := g.set _ hW2
  clear hW2
  refine CallP.mono (refN (k := 4) (by decide) g.rd) ?_
  rintro v W1 ⟨x3, rfl, p3, q3, u, st3, I, R3⟩
  replace g := g.read u I
  clear u I
  have c3 : IntKind.u32.wrap x3 = x3 := wrap32 p3 q3
  simp [go_sem, g.ask, c3]
  refine gen_call ?_
  intro W2 hW2
  replace g := g.set _ hW2
  clear hW2
  refine CallP.mono (refN (k := 4) (by decide) g.rd) ?_
  rintro v W1 ⟨x4, rfl, p4, q4, u, st4, I, R4⟩
  replace g := g.read u I
  clear u I
  have c4 : IntKind.u32.wrap x4 = x4 := wrap32 p4 q4
  simp [go_sem, g.ask, c4]
  refine gen_call ?_
  intro W2 hW2
  replace g := g.set _ hW2
  clear hW2
  refine CallP.mono (refN (k := 1) (by decide) g.rd) ?_
  rintro v W1 ⟨x5, rfl, p5, q5, u, st5, I, R5⟩
  replace g := g.read u I
  clear u I
  have c5 : IntKind.u8.wrap x5 = x5 := wrap8 p5 q5
  simp [go_sem, g.ask, c5]
  refine gen_call ?_
  intro W2 hW2
  replace g := g.set _ hW2
  clear hW2
  refine CallP.mono (refN (k := 1) (by decide) g.rd) ?_
  rintro v W1 ⟨x6, rfl, p6, q6, u, st6, I, R6⟩
  replace g := g.read u I
  clear u I
  have c6 : IntKind.u8.wrap x6 = x6 := wrap8 p6 q6
  simp [go_sem, g.ask, c6]
  refine gen_call ?_
  intro W2 hW2
  replace g := g.set _ hW2
  clear hW2
  refine CallP.mono (refMost (k := 2) (by decide) (m := 0) (e := 5) (by decide) g.rd) ?_
  rintro v W1 ⟨x7, rfl, p7, q7, u, st7, I, R7⟩
  replace g := g.read u I
  clear u I
  simp [go_sem, g.ask]
  refine CallP.mono (refN (k := 8) (by decide) g.rd) ?_
  rintro v W1 ⟨x8, rfl, p8, q8, u, st8, I, R8⟩
  replace g := g.read u I
  clear u I
  simp [go_sem, g.ask]
  refine gen_call ?_
  intro W2 hW2
  replace g := g.set _ hW2
  clear hW2
  refine CallP.mono (refText g.rd) ?_
  rintro v W1 ⟨x9, rfl, u, st9, I, R9⟩
  replace g := g.read u I
  clear u I
  simp [go_sem, g.ask]
  refine gen_call ?_
  intro W2 hW2
  replace g := g.set _ hW2
  clear hW2
  refine CallP.mono (refEnd g.rd) ?_
  have hne := g.rd.ne
  rintro v W1 ⟨rfl, u, stE, I⟩
  replace g := g.read u I
  clear u I
  have G := (askF5).of_rd ((Rd.seq (D := fun _ => _) R1 (Rd.seq (D := fun _ => _) R2 (Rd.seq (D := fun _ => _) R3 (Rd.seq (D := fun _ => _) R4 (Rd.seq (D := fun _ => _) R5 (Rd.seq (D := fun _ => _) R6 (Rd.seq (D := fun _ => _) (zero_of R7) (Rd.seq (D := fun _ => _) R8 R9))))))))) hne
  by_cases hf : finE (st9) = 0
  · rw [if_pos hf] at G
    simp [go_sem, hf, g.ask, g.res]
    exact ⟨g.rd.u.setB _ _ (fun h => absurd h (by have := g.ne; omega)), by rw [G]; exact ⟨_, rfl, rfl, nilW _ _, nil_own _ _, nilL _ _⟩⟩
  · rw [if_neg hf] at G
    simp [go_sem, hf, g.ask, g.res]
    exact ⟨g.rd.u.setB _ _ (fun h => absurd h (by have := g.ne; omega)), by rw [G]; rfl⟩
set_option maxHeartbeats 1000000 in
theorem ref09GetAsk6 {s : Value} {l : List UInt8} (hb : BytesAt w s l) (hl : l.length ≤ 1099511627776) : CallP Tryz.prog 74 #[.int .u16 6, s] w (fun r w' => Upd noB w w' ∧ AskRes w' w.heap.size r (askFf.get l)) := by
  obtain ⟨p, cap, rfl, hcap⟩ := hb.len
  refine call_den (args := [_, _]) Tryz.func74 rfl rfl (by simp [Tryz.ntmps74]) ?_
  simp [go_sem]
  refine CallP.mono (known9_any _ _) ?_
  rintro r W ⟨rfl, hW⟩
  have hu : Upd noB w W := by rw [hW]; exact (by repeat (first | exact Upd.refl _ _ | refine Upd.alloc ?_ _ | refine Upd.drew ?_ | refine Upd.drewN ?_ _ | refine Upd.setB ?_ _ _ (fun h => absurd h (by omega))))
  have h0 : W.heap[w.heap.size]? = some (.cells zeroA.cells 34 (0, 0)) := by rw [hW, heap_alloc, if_pos rfl]
  clear hW
  simp [go_sem, known9]
  refine gen_call ?_
  intro W2 hW2
  have g := GS.start (T := 123) hb hl hu h0 hW2
  clear hW2 h0 hu
  generalize W.heap.size = b at *
  generalize w.heap.size = rb at *
  clear W
  revert W2
  intro W g
  refine CallP.mono (refN (k := 8) (by decide) g.rd) ?_
  rintro v W1 ⟨x1, rfl, p1, q1, u, st1, I, R1⟩
  replace g := g.read u I
  clear u I
  simp [go_sem, g.ask]
  refine gen_call ?_
  intro W2 hW2
  replace g := g.set _ hW2
  clear hW2
  refine CallP.mono (refEnd g.rd) ?_
  have hne := g.rd.ne
  rintro v W1 ⟨rfl, u, stE, I⟩
  replace g := g.read u I
  clear u I
  have G := (askFf).of_rd (R1) hne
  by_cases hf : finE (st1) = 0
  · rw [if_pos hf] at G
    simp [go_sem, hf, g.ask, g.res]
    exact ⟨g.rd.u.setB _ _ (fun h => absurd h (by have := g.ne; omega)), by rw [G]; exact ⟨_, rfl, rfl, nilW _ _, nil_own _ _, nilL _ _⟩⟩
  · rw [if_neg hf] at G
    simp [go_sem, hf, g.ask, g.res]
    exact ⟨g.rd.u.setB _ _ (fun h => absurd h (by have := g.ne; omega)), by rw [G]; rfl⟩
set_option maxHeartbeats 1000000 in
theorem ref09GetAsk7 {s : Value} {l : List UInt8} (hb : BytesAt w s l) (hl : l.length ≤ 1099511627776) : CallP Tryz.prog 74 #[.int .u16 7, s] w (fun r w' => Upd noB w w' ∧ AskRes w' w.heap.size r (askFf.get l)) := by
  obtain ⟨p, cap, rfl, hcap⟩ := hb.len
  refine call_den (args := [_, _]) Tryz.func74 rfl rfl (by simp [Tryz.ntmps74]) ?_
  simp [go_sem]
  refine CallP.mono (known9_any _ _) ?_
  rintro r W ⟨rfl, hW⟩
  have hu : Upd noB w W := by rw [hW]; exact (by repeat (first | exact Upd.refl _ _ | refine Upd.alloc ?_ _ | refine Upd.drew ?_ | refine Upd.drewN ?_ _ | refine Upd.setB ?_ _ _ (fun h => absurd h (by omega))))
  have h0 : W.heap[w.heap.size]? = some (.cells zeroA.cells 34 (0, 0)) := by rw [hW, heap_alloc, if_pos rfl]
  clear hW
  simp [go_sem, known9]
  refine gen_call ?_
  intro W2 hW2
  have g := GS.start (T := 123) hb hl hu h0 hW2
  clear hW2 h0 hu
  generalize W.heap.size = b at *
  generalize w.heap.size = rb at *
  clear W
  revert W2
  intro W g
  refine CallP.mono (refN (k := 8) (by decide) g.rd) ?_
  rintro v W1 ⟨x1, rfl, p1, q1, u, st1, I, R1⟩
  replace g := g.read u I
  clear u I
  simp [go_sem, g.ask]
  refine gen_call ?_
  intro W2 hW2
  replace g := g.set _ hW2
  clear hW2
  refine CallP.mono (refEnd g.rd) ?_
  have hne := g.rd.ne
  rintro v W1 ⟨rfl, u, stE, I⟩
  replace g := g.read u I
  clear u I
  have G := (askFf).of_rd (R1) hne
  by_cases hf : finE (st1) = 0
  · rw [if_pos hf] at G
    simp [go_sem, hf, g.ask, g.res]
    exact ⟨g.rd.u.setB _ _ (fun h => absurd h (by have := g.ne; omega)), by rw [G]; exact ⟨_, rfl, rfl, nilW _ _, nil_own _ _, nilL _ _⟩⟩
  · rw [if_neg hf] at G
    simp [go_sem, hf, g.ask, g.res]
    exact ⟨g.rd.u.setB _ _ (fun h => absurd h (by have := g.ne; omega)), by rw [G]; rfl⟩
set_option maxHeartbeats 1000000 in
theorem ref09GetAsk8 {s : Value} {l : List UInt8} (hb : BytesAt w s l) (hl : l.length ≤ 1099511627776) : CallP Tryz.prog 74 #[.int .u16 8, s] w (fun r w' => Upd noB w w' ∧ AskRes w' w.heap.size r (askF8.get l)) := by
  obtain ⟨p, cap, rfl, hcap⟩ := hb.len
  refine call_den (args := [_, _]) Tryz.func74 rfl rfl (by simp [Tryz.ntmps74]) ?_
  simp [go_sem]
  refine CallP.mono (known9_any _ _) ?_
  rintro r W ⟨rfl, hW⟩
  have hu : Upd noB w W := by rw [hW]; exact (by repeat (first | exact Upd.refl _ _ | refine Upd.alloc ?_ _ | refine Upd.drew ?_ | refine Upd.drewN ?_ _ | refine Upd.setB ?_ _ _ (fun h => absurd h (by omega))))
  have h0 : W.heap[w.heap.size]? = some (.cells zeroA.cells 34 (0, 0)) := by rw [hW, heap_alloc, if_pos rfl]
  clear hW
  simp [go_sem, known9]
  refine gen_call ?_
  intro W2 hW2
  have g := GS.start (T := 123) hb hl hu h0 hW2
  clear hW2 h0 hu
  generalize W.heap.size = b at *
  generalize w.heap.size = rb at *
  clear W
  revert W2
  intro W g
  refine CallP.mono (refN (k := 8) (by decide) g.rd) ?_
  rintro v W1 ⟨x1, rfl, p1, q1, u, st1, I, R1⟩
  replace g := g.read u I
  clear u I
  simp [go_sem, g.ask]
  refine gen_call ?_
  intro W2 hW2
  replace g := g.set _ hW2
  clear hW2
  refine CallP.mono (refN (k := 8) (by decide) g.rd) ?_
  rintro v W1 ⟨x2, rfl, p2, q2, u, st2, I, R2⟩
  replace g := g.read u I
  clear u I
  simp [go_sem, g.ask]
  refine gen_call ?_
  intro W2 hW2
  replace g := g.set _ hW2
  clear hW2
  refine CallP.mono (refN (k := 4) (by decide) g.rd) ?_
  rintro v W1 ⟨x3, rfl, p3, q3, u, st3, I, R3⟩
  replace g := g.read u I
  clear u I
  have c3 : IntKind.u32.wrap x3 = x3 := wrap32 p3 q3
  simp [go_sem, g.ask, c3]
  refine gen_call ?_
  intro W2 hW2
  replace g := g.set _ hW2
  clear hW2
  refine CallP.mono (refEnd g.rd) ?_
  have hne := g.rd.ne
  rintro v W1 ⟨rfl, u, stE, I⟩
  replace g := g.read u I
  clear u I
  have G := (askF8).of_rd ((Rd.seq (D := fun _ => _) R1 (Rd.seq (D := fun _ => _) R2 R3))) hne
  by_cases hf : finE (st3) = 0
  · rw [if_pos hf] at G
    simp [go_sem, hf, g.ask, g.res]
    exact ⟨g.rd.u.setB _ _ (fun h => absurd h (by have := g.ne; omega)), by rw [G]; exact ⟨_, rfl, rfl, nilW _ _, nil_own _ _, nilL _ _⟩⟩
  · rw [if_neg hf] at G
    simp [go_sem, hf, g.ask, g.res]
    exact ⟨g.rd.u.setB _ _ (fun h => absurd h (by have := g.ne; omega)), by rw [G]; rfl⟩
set_option maxHeartbeats 1000000 in
theorem ref09GetSay5 {s : Value} {l : List UInt8} (hb : BytesAt w s l) (hl : l.length ≤ 1099511627776) : CallP Tryz.prog 77 #[.int .u16 5, s] w (fun r w' => Upd noB w w' ∧ SayRes w' w.heap.size r (sayF5.get l)) := by
  obtain ⟨p, cap, rfl, hcap⟩ := hb.len
  refine call_den (args := [_, _]) Tryz.func77 rfl rfl (by simp [Tryz.ntmps77]) ?_
  simp [go_sem]
  refine CallP.mono (known9_any _ _) ?_
  rintro r W ⟨rfl, hW⟩
  have hu : Upd noB w W := by rw [hW]; exact (by repeat (first | exact Upd.refl _ _ | refine Upd.alloc ?_ _ | refine Upd.drew ?_ | refine Upd.drewN ?_ _ | refine Upd.setB ?_ _ _ (fun h => absurd h (by omega))))
  have h0 : W.heap[w.heap.size]? = some (.cells zeroS.cells 39 (0, 0)) := by rw [hW, heap_alloc, if_pos rfl]
  clear hW
  simp [go_sem, known9]
  refine gen_call ?_
  intro W2 hW2
  have g := GZ.start (T := 123) hb hl hu h0 hW2
  clear hW2 h0 hu
  generalize W.heap.size = b at *
  generalize w.heap.size = rb at *
  clear W
  revert W2
  intro W g
  refine CallP.mono (refN (k := 1) (by decide) g.rd) ?_
  rintro v W1 ⟨x1, rfl, p1, q1, u, st1, I, R1⟩
  replace g := g.read u I
  clear u I
  have c1 : IntKind.u8.wrap x1 = x1 := wrap8 p1 q1
  simp [go_sem, g.ask, c1]
  refine gen_call ?_
  intro W2 hW2
  replace g := g.set _ hW2
  clear hW2
  refine CallP.mono (refN (k := 1) (by decide) g.rd) ?_
  rintro v W1 ⟨x2, rfl, p2, q2, u, st2, I, R2⟩
  replace g := g.read u I
  clear u I
  have c2 : IntKind.u8.wrap x2 = x2 := wrap8 p2 q2
  simp [go_sem, g.ask, c2]
  refine gen_call ?_
  intro W2 hW2
  replace g := g.set _ hW2
  clear hW2
  refine CallP.mono (refMost (k := 2) (by decide) (m := 2) (e := 5) (by decide) g.rd) ?_
  rintro v W1 ⟨x3, rfl, p3, q3, u, st3, I, R3⟩
  replace g := g.read u I
  clear u I
  have c3 : IntKind.u16.wrap x3 = x3 := wrap16 p3 q3
  simp [go_sem, g.ask, c3]
  refine gen_call ?_
  intro W2 hW2
  replace g := g.set _ hW2
  clear hW2
  refine CallP.mono (refN (k := 8) (by decide) g.rd) ?_
  rintro v W1 ⟨x4, rfl, p4, q4, u, st4, I, R4⟩
  replace g := g.read u I
  clear u I
  simp [go_sem, g.ask]
  refine gen_call ?_
  intro W2 hW2
  replace g := g.set _ hW2
  clear hW2
  refine CallP.mono (refN (k := 8) (by decide) g.rd) ?_
  rintro v W1 ⟨x5, rfl, p5, q5, u, st5, I, R5⟩
  replace g := g.read u I
  clear u I
  simp [go_sem, g.ask]
  refine gen_call ?_
  intro W2 hW2
  replace g := g.set _ hW2
  clear hW2
  refine CallP.mono (refMost (k := 2) (by decide) (m := 2) (e := 5) (by decide) g.rd) ?_
  rintro v W1 ⟨x6, rfl, p6, q6, u, st6, I, R6⟩
  replace g := g.read u I
  clear u I
  obtain ⟨y6, hy6⟩ : ∃ y, y = IntKind.u8.wrap x6 := ⟨_, rfl⟩
  replace R6 := most_as R6 (y := y6) (fun h => by rw [hy6]; exact wrap8 p6 (by omega))
  simp [go_sem, g.ask, ← hy6]
  refine gen_call ?_
  intro W2 hW2
  replace g := g.set _ hW2
  clear hW2
  refine CallP.mono (refMost (k := 2) (by decide) (m := 0) (e := 5) (by decide) g.rd) ?_
  rintro v W1 ⟨x7, rfl, p7, q7, u, st7, I, R7⟩
  replace g := g.read u I
  clear u I
  simp [go_sem, g.ask]
  refine CallP.mono (refEnd g.rd) ?_
  have hne := g.rd.ne
  rintro v W1 ⟨rfl, u, stE, I⟩
  replace g := g.read u I
  clear u I
  have G := (sayF5).of_rd ((Rd.seq (D := fun _ => _) R1 (Rd.seq (D := fun _ => _) R2 (Rd.seq (D := fun _ => _) R3 (Rd.seq (D := fun _ => _) R4 (Rd.seq (D := fun _ => _) R5 (Rd.seq (D := fun _ => _) R6 (zero_of R7)))))))) hne
  by_cases hf : finE (st7) = 0
  · rw [if_pos hf] at G
    simp [go_sem, hf, g.ask, g.res]
    exact ⟨g.rd.u.setB _ _ (fun h => absurd h (by have := g.ne; omega)), by rw [G]; exact ⟨_, rfl, rfl, nil_own _ _, nilE _ _⟩⟩
  · rw [if_neg hf] at G
    simp [go_sem, hf, g.ask, g.res]
    exact ⟨g.rd.u.setB _ _ (fun h => absurd h (by have := g.ne; omega)), by rw [G]; rfl⟩
set_option maxHeartbeats 1000000 in
theorem ref09GetSay6 {s : Value} {l : List UInt8} (hb : BytesAt w s l) (hl : l.length ≤ 1099511627776) : CallP Tryz.prog 77 #[.int .u16 6, s] w (fun r w' => Upd noB w w' ∧ SayRes w' w.heap.size r (sayFz.get l)) := by
  obtain ⟨p, cap, rfl, hcap⟩ := hb.len
  refine call_den (args := [_, _]) Tryz.func77 rfl rfl (by simp [Tryz.ntmps77]) ?_
  simp [go_sem]
  refine CallP.mono (known9_any _ _) ?_
  rintro r W ⟨rfl, hW⟩
  have hu : Upd noB w W := by rw [hW]; exact (by repeat (first | exact Upd.refl _ _ | refine Upd.alloc ?_ _ | refine Upd.drew ?_ | refine Upd.drewN ?_ _ | refine Upd.setB ?_ _ _ (fun h => absurd h (by omega))))
  have h0 : W.heap[w.heap.size]? = some (.cells zeroS.cells 39 (0, 0)) := by rw [hW, heap_alloc, if_pos rfl]
  clear hW
  simp [go_sem, known9]
  refine gen_call ?_
  intro W2 hW2
  have g := GZ.start (T := 123) hb hl hu h0 hW2
  clear hW2 h0 hu
  generalize W.heap.size = b at *
  generalize w.heap.size = rb at *
  clear W
  revert W2
  intro W g
  refine CallP.mono (refMost (k := 4) (by decide) (m := 0) (e := 5) (by decide) g.rd) ?_
  rintro v W1 ⟨x1, rfl, p1, q1, u, st1, I, R1⟩
  replace g := g.read u I
  clear u I
  simp [go_sem, g.ask]
  refine CallP.mono (refEnd g.rd) ?_
  have hne := g.rd.ne
  rintro v W1 ⟨rfl, u, stE, I⟩
  replace g := g.read u I
  clear u I
  have G := (sayFz).of_rd ((zero_of R1)) hne
  by_cases hf : finE (st1) = 0
  · rw [if_pos hf] at G
    simp [go_sem, hf, g.ask, g.res]
    exact ⟨g.rd.u.setB _ _ (fun h => absurd h (by have := g.ne; omega)), by rw [G]; exact ⟨_, rfl, rfl, nil_own _ _, nilE _ _⟩⟩
  · rw [if_neg hf] at G
    simp [go_sem, hf, g.ask, g.res]
    exact ⟨g.rd.u.setB _ _ (fun h => absurd h (by have := g.ne; omega)), by rw [G]; rfl⟩
set_option maxHeartbeats 1000000 in
theorem ref09GetSay7 {s : Value} {l : List UInt8} (hb : BytesAt w s l) (hl : l.length ≤ 1099511627776) : CallP Tryz.prog 77 #[.int .u16 7, s] w (fun r w' => Upd noB w w' ∧ SayRes w' w.heap.size r (sayFz.get l)) := by
  obtain ⟨p, cap, rfl, hcap⟩ := hb.len
  refine call_den (args := [_, _]) Tryz.func77 rfl rfl (by simp [Tryz.ntmps77]) ?_
  simp [go_sem]
  refine CallP.mono (known9_any _ _) ?_
  rintro r W ⟨rfl, hW⟩
  have hu : Upd noB w W := by rw [hW]; exact (by repeat (first | exact Upd.refl _ _ | refine Upd.alloc ?_ _ | refine Upd.drew ?_ | refine Upd.drewN ?_ _ | refine Upd.setB ?_ _ _ (fun h => absurd h (by omega))))
  have h0 : W.heap[w.heap.size]? = some (.cells zeroS.cells 39 (0, 0)) := by rw [hW, heap_alloc, if_pos rfl]
  clear hW
  simp [go_sem, known9]
  refine gen_call ?_
  intro W2 hW2
  have g := GZ.start (T := 123) hb hl hu h0 hW2
  clear hW2 h0 hu
  generalize W.heap.size = b at *
  generalize w.heap.size = rb at *
  clear W
  revert W2
  intro W g
  refine CallP.mono (refMost (k := 4) (by decide) (m := 0) (e := 5) (by decide) g.rd) ?_
  rintro v W1 ⟨x1, rfl, p1, q1, u, st1, I, R1⟩
  replace g := g.read u I
  clear u I
  simp [go_sem, g.ask]
  refine CallP.mono (refEnd g.rd) ?_
  have hne := g.rd.ne
  rintro v W1 ⟨rfl, u, stE, I⟩
  replace g := g.read u I
  clear u I
  have G := (sayFz).of_rd ((zero_of R1)) hne
  by_cases hf : finE (st1) = 0
  · rw [if_pos hf] at G
    simp [go_sem, hf, g.ask, g.res]
    exact ⟨g.rd.u.setB _ _ (fun h => absurd h (by have := g.ne; omega)), by rw [G]; exact ⟨_, rfl, rfl, nil_own _ _, nilE _ _⟩⟩
  · rw [if_neg hf] at G
    simp [go_sem, hf, g.ask, g.res]
    exact ⟨g.rd.u.setB _ _ (fun h => absurd h (by have := g.ne; omega)), by rw [G]; rfl⟩
set_option maxHeartbeats 1000000 in
theorem ref09GetSay10 {s : Value} {l : List UInt8} (hb : BytesAt w s l) (hl : l.length ≤ 1099511627776) : CallP Tryz.prog 77 #[.int .u16 10, s] w (fun r w' => Upd noB w w' ∧ SayRes w' w.heap.size r (sayFz.get l)) := by
  obtain ⟨p, cap, rfl, hcap⟩ := hb.len
  refine call_den (args := [_, _]) Tryz.func77 rfl rfl (by simp [Tryz.ntmps77]) ?_
  simp [go_sem]
  refine CallP.mono (known9_any _ _) ?_
  rintro r W ⟨rfl, hW⟩
  have hu : Upd noB w W := by rw [hW]; exact (by repeat (first | exact Upd.refl _ _ | refine Upd.alloc ?_ _ | refine Upd.drew ?_ | refine Upd.drewN ?_ _ | refine Upd.setB ?_ _ _ (fun h => absurd h (by omega))))
  have h0 : W.heap[w.heap.size]? = some (.cells zeroS.cells 39 (0, 0)) := by rw [hW, heap_alloc, if_pos rfl]
  clear hW
  simp [go_sem, known9]
  refine gen_call ?_
  intro W2 hW2
  have g := GZ.start (T := 123) hb hl hu h0 hW2
  clear hW2 h0 hu
  generalize W.heap.size = b at *
  generalize w.heap.size = rb at *
  clear W
  revert W2
  intro W g
  refine CallP.mono (refMost (k := 4) (by decide) (m := 0) (e := 5) (by decide) g.rd) ?_
  rintro v W1 ⟨x1, rfl, p1, q1, u, st1, I, R1⟩
  replace g := g.read u I
  clear u I
  simp [go_sem, g.ask]
  refine CallP.mono (refEnd g.rd) ?_
  have hne := g.rd.ne
  rintro v W1 ⟨rfl, u, stE, I⟩
  replace g := g.read u I
  clear u I
  have G := (sayFz).of_rd ((zero_of R1)) hne
  by_cases hf : finE (st1) = 0
  · rw [if_pos hf] at G
    simp [go_sem, hf, g.ask, g.res]
    exact ⟨g.rd.u.setB _ _ (fun h => absurd h (by have := g.ne; omega)), by rw [G]; exact ⟨_, rfl, rfl, nil_own _ _, nilE _ _⟩⟩
  · rw [if_neg hf] at G
    simp [go_sem, hf, g.ask, g.res]
    exact ⟨g.rd.u.setB _ _ (fun h => absurd h (by have := g.ne; omega)), by rw [G]; rfl⟩
set_option maxHeartbeats 1000000 in
theorem ref09GetSay9 {s : Value} {l : List UInt8} (hb : BytesAt w s l) (hl : l.length ≤ 1099511627776) : CallP Tryz.prog 77 #[.int .u16 9, s] w (fun r w' => Upd noB w w' ∧ SayRes w' w.heap.size r (sayF9.get l)) := by
  obtain ⟨p, cap, rfl, hcap⟩ := hb.len
  refine call_den (args := [_, _]) Tryz.func77 rfl rfl (by simp [Tryz.ntmps77]) ?_
  simp [go_sem]
  refine CallP.mono (known9_any _ _) ?_
  rintro r W ⟨rfl, hW⟩
  have hu : Upd noB w W := by rw [hW]; exact (by repeat (first | exact Upd.refl _ _ | refine Upd.alloc ?_ _ | refine Upd.drew ?_ | refine Upd.drewN ?_ _ | refine Upd.setB ?_ _ _ (fun h => absurd h (by omega))))
  have h0 : W.heap[w.heap.size]? = some (.cells zeroS.cells 39 (0, 0)) := by rw [hW, heap_alloc, if_pos rfl]
  clear hW
  simp [go_sem, known9]
  refine gen_call ?_
  intro W2 hW2
  have g := GZ.start (T := 123) hb hl hu h0 hW2
  clear hW2 h0 hu
  generalize W.heap.size = b at *
  generalize w.heap.size = rb at *
  clear W
  revert W2
  intro W g
  refine CallP.mono (refN (k := 4) (by decide) g.rd) ?_
  rintro v W1 ⟨x1, rfl, p1, q1, u, st1, I, R1⟩
  replace g := g.read u I
  clear u I
  have c1 : IntKind.u32.wrap x1 = x1 := wrap32 p1 q1
  simp [go_sem, g.ask, c1]
  refine gen_call ?_
  intro W2 hW2
  replace g := g.set _ hW2
  clear hW2
  refine CallP.mono (refEnd g.rd) ?_
  have hne := g.rd.ne
  rintro v W1 ⟨rfl, u, stE, I⟩
  replace g := g.read u I
  clear u I
  have G := (sayF9).of_rd (R1) hne
  by_cases hf : finE (st1) = 0
  · rw [if_pos hf] at G
    simp [go_sem, hf, g.ask, g.res]
    exact ⟨g.rd.u.setB _ _ (fun h => absurd h (by have := g.ne; omega)), by rw [G]; exact ⟨_, rfl, rfl, nil_own _ _, nilE _ _⟩⟩
  · rw [if_neg hf] at G
    simp [go_sem, hf, g.ask, g.res]
    exact ⟨g.rd.u.setB _ _ (fun h => absurd h (by have := g.ne; omega)), by rw [G]; rfl⟩
end Go.Proofs.YtinfdomlpbikaaaGreatDoor
namespace Go.Proofs.YtinfdomlpbikaaaGreatDoor
open Go.Eng Go.Lib
set_option linter.unusedSimpArgs false
set_option linter.unusedVariables false
set_option maxRecDepth 100000
variable {w w0 : World}
set_option maxHeartbeats 1000000 in
theorem fileGetAsk6 {s : Value} {l : List UInt8} (hb : BytesAt w s l) (hl : l.length ≤ 1099511627776) : CallP Tryz.prog 85 #[.int .u16 6, s] w (fun r w' => Upd noB w w' ∧ AskRes w' w.heap.size r (askFf.get l)) := by
  obtain ⟨p, cap, rfl, hcap⟩ := hb.len
  refine call_den (args := [_, _]) Tryz.func85 rfl rfl (by simp [Tryz.ntmps85]) ?_
  simp [go_sem]
  refine CallP.mono (fileKnown_any _ _) ?_
  rintro r W ⟨rfl, hW⟩
  have hu : Upd noB w W := by rw [hW]; exact (by repeat (first | exact Upd.refl _ _ | refine Upd.alloc ?_ _ | refine Upd.drew ?_ | refine Upd.drewN ?_ _ | refine Upd.setB ?_ _ _ (fun h => absurd h (by omega))))
  have h0 : W.heap[w.heap.size]? = some (.cells zeroA.cells 34 (0, 0)) := by rw [hW, heap_alloc, if_pos rfl]
  clear hW
  simp [go_sem, known9]
  refine gen_call ?_
  intro W2 hW2
  have g := GS.start (T := 140) hb hl hu h0 hW2
  clear hW2 h0 hu
  generalize W.heap.size = b at *
  generalize w.heap.size = rb at *
  clear W
  revert W2
  intro W g
  refine CallP.mono (fileN8 g.rd) ?_
  rintro v W1 ⟨x1, rfl, p1, q1, u, st1, I, R1⟩
  replace g := g.read u I
  clear u I
  simp [go_sem, g.ask]
  refine gen_call ?_
  intro W2 hW2
  replace g := g.set _ hW2
  clear hW2
  refine CallP.mono (fileEnd g.rd) ?_
  have hne := g.rd.ne
  rintro v W1 ⟨rfl, u, stE, I⟩
  replace g := g.read u I
  clear u I
  have G := (askFf).of_rd (R1) hne
  by_cases hf : finE (st1) = 0
  · rw [if_pos hf] at G
    simp [go_sem, hf, g.ask, g.res]
    exact ⟨g.rd.u.setB _ _ (fun h => absurd h (by have := g.ne; omega)), by rw [G]; exact ⟨_, rfl, rfl, nilW _ _, nil_own _ _, nilL _ _⟩⟩
  · rw [if_neg hf] at G
    simp [go_sem, hf, g.ask, g.res]
    exact ⟨g.rd.u.setB _ _ (fun h => absurd h (by have := g.ne; omega)), by rw [G]; rfl⟩
set_option maxHeartbeats 1000000 in
theorem fileGetAsk7 {s : Value} {l : List UInt8} (hb : BytesAt w s l) (hl : l.length ≤ 1099511627776) : CallP Tryz.prog 85 #[.int .u16 7, s] w (fun r w' => Upd noB w w' ∧ AskRes w' w.heap.size r (askFf.get l)) := by
  obtain ⟨p, cap, rfl, hcap⟩ := hb.len
  refine call_den (args := [_, _]) Tryz.func85 rfl rfl (by simp [Tryz.ntmps85]) ?_
  simp [go_sem]
  refine CallP.mono (fileKnown_any _ _) ?_
  rintro r W ⟨rfl, hW⟩
  have hu : Upd noB w W := by rw [hW]; exact (by repeat (first | exact Upd.refl _ _ | refine Upd.alloc ?_ _ | refine Upd.drew ?_ | refine Upd.drewN ?_ _ | refine Upd.setB ?_ _ _ (fun h => absurd h (by omega))))
  have h0 : W.heap[w.heap.size]? = some (.cells zeroA.cells 34 (0, 0)) := by rw [hW, heap_alloc, if_pos rfl]
  clear hW
  simp [go_sem, known9]
  refine gen_call ?_
  intro W2 hW2
  have g := GS.start (T := 140) hb hl hu h0 hW2
  clear hW2 h0 hu
  generalize W.heap.size = b at *
  generalize w.heap.size = rb at *
  clear W
  revert W2
  intro W g
  refine CallP.mono (fileN8 g.rd) ?_
  rintro v W1 ⟨x1, rfl, p1, q1, u, st1, I, R1⟩
  replace g := g.read u I
  clear u I
  simp [go_sem, g.ask]
  refine gen_call ?_
  intro W2 hW2
  replace g := g.set _ hW2
  clear hW2
  refine CallP.mono (fileEnd g.rd) ?_
  have hne := g.rd.ne
  rintro v W1 ⟨rfl, u, stE, I⟩
  replace g := g.read u I
  clear u I
  have G := (askFf).of_rd (R1) hne
  by_cases hf : finE (st1) = 0
  · rw [if_pos hf] at G
    simp [go_sem, hf, g.ask, g.res]
    exact ⟨g.rd.u.setB _ _ (fun h => absurd h (by have := g.ne; omega)), by rw [G]; exact ⟨_, rfl, rfl, nilW _ _, nil_own _ _, nilL _ _⟩⟩
  · rw [if_neg hf] at G
    simp [go_sem, hf, g.ask, g.res]
    exact ⟨g.rd.u.setB _ _ (fun h => absurd h (by have := g.ne; omega)), by rw [G]; rfl⟩
set_option maxHeartbeats 1000000 in
theorem fileGetAsk8 {s : Value} {l : List UInt8} (hb : BytesAt w s l) (hl : l.length ≤ 1099511627776) : CallP Tryz.prog 85 #[.int .u16 8, s] w (fun r w' => Upd noB w w' ∧ AskRes w' w.heap.size r (askF8.get l)) := by
  obtain ⟨p, cap, rfl, hcap⟩ := hb.len
  refine call_den (args := [_, _]) Tryz.func85 rfl rfl (by simp [Tryz.ntmps85]) ?_
  simp [go_sem]
  refine CallP.mono (fileKnown_any _ _) ?_
  rintro r W ⟨rfl, hW⟩
  have hu : Upd noB w W := by rw [hW]; exact (by repeat (first | exact Upd.refl _ _ | refine Upd.alloc ?_ _ | refine Upd.drew ?_ | refine Upd.drewN ?_ _ | refine Upd.setB ?_ _ _ (fun h => absurd h (by omega))))
  have h0 : W.heap[w.heap.size]? = some (.cells zeroA.cells 34 (0, 0)) := by rw [hW, heap_alloc, if_pos rfl]
  clear hW
  simp [go_sem, known9]
  refine gen_call ?_
  intro W2 hW2
  have g := GS.start (T := 140) hb hl hu h0 hW2
  clear hW2 h0 hu
  generalize W.heap.size = b at *
  generalize w.heap.size = rb at *
  clear W
  revert W2
  intro W g
  refine CallP.mono (fileN8 g.rd) ?_
  rintro v W1 ⟨x1, rfl, p1, q1, u, st1, I, R1⟩
  replace g := g.read u I
  clear u I
  simp [go_sem, g.ask]
  refine gen_call ?_
  intro W2 hW2
  replace g := g.set _ hW2
  clear hW2
  refine CallP.mono (fileN8 g.rd) ?_
  rintro v W1 ⟨x2, rfl, p2, q2, u, st2, I, R2⟩
  replace g := g.read u I
  clear u I
  simp [go_sem, g.ask]
  refine gen_call ?_
  intro W2 hW2
  replace g := g.set _ hW2
  clear hW2
  refine CallP.mono (fileN4 g.rd) ?_
  rintro v W1 ⟨x3, rfl, p3, q3, u, st3, I, R3⟩
  replace g := g.read u I
  clear u I
  have c3 : IntKind.u32.wrap x3 = x3 := wrap32 p3 q3
  simp [go_sem, g.ask, c3]
  refine gen_call ?_
  intro W2 hW2
  replace g := g.set _ hW2
  clear hW2
  refine CallP.mono (fileEnd g.rd) ?_
  have hne := g.rd.ne
  rintro v W1 ⟨rfl, u, stE, I⟩
  replace g := g.read u I
  clear u I
  have G := (askF8).of_rd ((Rd.seq (D := fun _ => _) R1 (Rd.seq (D := fun _ => _) R2 R3))) hne
  by_cases hf : finE (st3) = 0
  · rw [if_pos hf] at G
    simp [go_sem, hf, g.ask, g.res]
    exact ⟨g.rd.u.setB _ _ (fun h => absurd h (by have := g.ne; omega)), by rw [G]; exact ⟨_, rfl, rfl, nilW _ _, nil_own _ _, nilL _ _⟩⟩
  · rw [if_neg hf] at G
    simp [go_sem, hf, g.ask, g.res]
    exact ⟨g.rd.u.setB _ _ (fun h => absurd h (by have := g.ne; omega)), by rw [G]; rfl⟩
set_option maxHeartbeats 1000000 in
theorem fileGetSay5 {s : Value} {l : List UInt8} (hb : BytesAt w s l) (hl : l.length ≤ 1099511627776) : CallP Tryz.prog 87 #[.int .u16 5, s] w (fun r w' => Upd noB w w' ∧ SayRes w' w.heap.size r (sayF5.get l)) := by
  obtain ⟨p, cap, rfl, hcap⟩ := hb.len
  refine call_den (args := [_, _]) Tryz.func87 rfl rfl (by simp [Tryz.ntmps87]) ?_
  simp [go_sem]
  refine CallP.mono (fileKnown_any _ _) ?_
  rintro r W ⟨rfl, hW⟩
  have hu : Upd noB w W := by rw [hW]; exact (by repeat (first | exact Upd.refl _ _ | refine Upd.alloc ?_ _ | refine Upd.drew ?_ | refine Upd.drewN ?_ _ | refine Upd.setB ?_ _ _ (fun h => absurd h (by omega))))
  have h0 : W.heap[w.heap.size]? = some (.cells zeroS.cells 39 (0, 0)) := by rw [hW, heap_alloc, if_pos rfl]
  clear hW
  simp [go_sem, known9]
  refine gen_call ?_
  intro W2 hW2
  have g := GZ.start (T := 140) hb hl hu h0 hW2
  clear hW2 h0 hu
  generalize W.heap.size = b at *
  generalize w.heap.size = rb at *
  clear W
  revert W2
  intro W g
  refine CallP.mono (fileN1 g.rd) ?_
  rintro v W1 ⟨x1, rfl, p1, q1, u, st1, I, R1⟩
  replace g := g.read u I
  clear u I
  have c1 : IntKind.u8.wrap x1 = x1 := wrap8 p1 q1
  simp [go_sem, g.ask, c1]
  refine gen_call ?_
  intro W2 hW2
  replace g := g.set _ hW2
  clear hW2
  refine CallP.mono (fileN1 g.rd) ?_
  rintro v W1 ⟨x2, rfl, p2, q2, u, st2, I, R2⟩
  replace g := g.read u I
  clear u I
  have c2 : IntKind.u8.wrap x2 = x2 := wrap8 p2 q2
  simp [go_sem, g.ask, c2]
  refine gen_call ?_
  intro W2 hW2
  replace g := g.set _ hW2
  clear hW2
  refine CallP.mono (fileSmall2 (m := 2) (e := 5) (by decide) g.rd) ?_
  rintro v W1 ⟨x3, rfl, p3, q3, u, st3, I, R3⟩
  replace g := g.read u I
  clear u I
  have c3 : IntKind.u16.wrap x3 = x3 := wrap16 p3 q3
  simp [go_sem, g.ask, c3]
  refine gen_call ?_
  intro W2 hW2
  replace g := g.set _ hW2
  clear hW2
  refine CallP.mono (fileN8 g.rd) ?_
  rintro v W1 ⟨x4, rfl, p4, q4, u, st4, I, R4⟩
  replace g := g.read u I
  clear u I
  simp [go_sem, g.ask]
  refine gen_call ?_
  intro W2 hW2
  replace g := g.set _ hW2
  clear hW2
  refine CallP.mono (fileN8 g.rd) ?_
  rintro v W1 ⟨x5, rfl, p5, q5, u, st5, I, R5⟩
  replace g := g.read u I
  clear u I
  simp [go_sem, g.ask]
  refine gen_call ?_
  intro W2 hW2
  replace g := g.set _ hW2
  clear hW2
  refine CallP.mono (fileSmall2 (m := 2) (e := 5) (by decide) g.rd) ?_
  rintro v W1 ⟨x6, rfl, p6, q6, u, st6, I, R6⟩
  replace g := g.read u I
  clear u I
  obtain ⟨y6, hy6⟩ : ∃ y, y = IntKind.u8.wrap x6 := ⟨_, rfl⟩
  replace R6 := most_as R6 (y := y6) (fun h => by rw [hy6]; exact wrap8 p6 (by omega))
  simp [go_sem, g.ask, ← hy6]
  refine gen_call ?_
  intro W2 hW2
  replace g := g.set _ hW2
  clear hW2
  refine CallP.mono (fileSmall2 (m := 0) (e := 5) (by decide) g.rd) ?_
  rintro v W1 ⟨x7, rfl, p7, q7, u, st7, I, R7⟩
  replace g := g.read u I
  clear u I
  simp [go_sem, g.ask]
  refine CallP.mono (fileEnd g.rd) ?_
  have hne := g.rd.ne
  rintro v W1 ⟨rfl, u, stE, I⟩
  replace g := g.read u I
  clear u I
  have G := (sayF5).of_rd ((Rd.seq (D := fun _ => _) R1 (Rd.seq (D := fun _ => _) R2 (Rd.seq (D := fun _ => _) R3 (Rd.seq (D := fun _ => _) R4 (Rd.seq (D := fun _ => _) R5 (Rd.seq (D := fun _ => _) R6 (zero_of R7)))))))) hne
  by_cases hf : finE (st7) = 0
  · rw [if_pos hf] at G
    simp [go_sem, hf, g.ask, g.res]
    exact ⟨g.rd.u.setB _ _ (fun h => absurd h (by have := g.ne; omega)), by rw [G]; exact ⟨_, rfl, rfl, nil_own _ _, nilE _ _⟩⟩
  · rw [if_neg hf] at G
    simp [go_sem, hf, g.ask, g.res]
    exact ⟨g.rd.u.setB _ _ (fun h => absurd h (by have := g.ne; omega)), by rw [G]; rfl⟩
set_option maxHeartbeats 1000000 in
theorem fileGetSay6 {s : Value} {l : List UInt8} (hb : BytesAt w s l) (hl : l.length ≤ 1099511627776) : CallP Tryz.prog 87 #[.int .u16 6, s] w (fun r w' => Upd noB w w' ∧ SayRes w' w.heap.size r (sayFz.get l)) := by
  obtain ⟨p, cap, rfl, hcap⟩ := hb.len
  refine call_den (args := [_, _]) Tryz.func87 rfl rfl (by simp [Tryz.ntmps87]) ?_
  simp [go_sem]
  refine CallP.mono (fileKnown_any _ _) ?_
  rintro r W ⟨rfl, hW⟩
  have hu : Upd noB w W := by rw [hW]; exact (by repeat (first | exact Upd.refl _ _ | refine Upd.alloc ?_ _ | refine Upd.drew ?_ | refine Upd.drewN ?_ _ | refine Upd.setB ?_ _ _ (fun h => absurd h (by omega))))
  have h0 : W.heap[w.heap.size]? = some (.cells zeroS.cells 39 (0, 0)) := by rw [hW, heap_alloc, if_pos rfl]
  clear hW
  simp [go_sem, known9]
  refine gen_call ?_
  intro W2 hW2
  have g := GZ.start (T := 140) hb hl hu h0 hW2
  clear hW2 h0 hu
  generalize W.heap.size = b at *
  generalize w.heap.size = rb at *
  clear W
  revert W2
  intro W g
  refine CallP.mono (fileSmall4 (m := 0) (e := 5) (by decide) g.rd) ?_
  rintro v W1 ⟨x1, rfl, p1, q1, u, st1, I, R1⟩
  replace g := g.read u I
  clear u I
  simp [go_sem, g.ask]
  refine CallP.mono (fileEnd g.rd) ?_
  have hne := g.rd.ne
  rintro v W1 ⟨rfl, u, stE, I⟩
  replace g := g.read u I
  clear u I
  have G := (sayFz).of_rd ((zero_of R1)) hne
  by_cases hf : finE (st1) = 0
  · rw [if_pos hf] at G
    simp [go_sem, hf, g.ask, g.res]
    exact ⟨g.rd.u.setB _ _ (fun h => absurd h (by have := g.ne; omega)), by rw [G]; exact ⟨_, rfl, rfl, nil_own _ _, nilE _ _⟩⟩
  · rw [if_neg hf] at G
    simp [go_sem, hf, g.ask, g.res]
    exact ⟨g.rd.u.setB _ _ (fun h => absurd h (by have := g.ne; omega)), by rw [G]; rfl⟩
set_option maxHeartbeats 1000000 in
theorem fileGetSay7 {s : Value} {l : List UInt8} (hb : BytesAt w s l) (hl : l.length ≤ 1099511627776) : CallP Tryz.prog 87 #[.int .u16 7, s] w (fun r w' => Upd noB w w' ∧ SayRes w' w.heap.size r (sayFz.get l)) := by
  obtain ⟨p, cap, rfl, hcap⟩ := hb.len
  refine call_den (args := [_, _]) Tryz.func87 rfl rfl (by simp [Tryz.ntmps87]) ?_
  simp [go_sem]
  refine CallP.mono (fileKnown_any _ _) ?_
  rintro r W ⟨rfl, hW⟩
  have hu : Upd noB w W := by rw [hW]; exact (by repeat (first | exact Upd.refl _ _ | refine Upd.alloc ?_ _ | refine Upd.drew ?_ | refine Upd.drewN ?_ _ | refine Upd.setB ?_ _ _ (fun h => absurd h (by omega))))
  have h0 : W.heap[w.heap.size]? = some (.cells zeroS.cells 39 (0, 0)) := by rw [hW, heap_alloc, if_pos rfl]
  clear hW
  simp [go_sem, known9]
  refine gen_call ?_
  intro W2 hW2
  have g := GZ.start (T := 140) hb hl hu h0 hW2
  clear hW2 h0 hu
  generalize W.heap.size = b at *
  generalize w.heap.size = rb at *
  clear W
  revert W2
  intro W g
  refine CallP.mono (fileSmall4 (m := 0) (e := 5) (by decide) g.rd) ?_
  rintro v W1 ⟨x1, rfl, p1, q1, u, st1, I, R1⟩
  replace g := g.read u I
  clear u I
  simp [go_sem, g.ask]
  refine CallP.mono (fileEnd g.rd) ?_
  have hne := g.rd.ne
  rintro v W1 ⟨rfl, u, stE, I⟩
  replace g := g.read u I
  clear u I
  have G := (sayFz).of_rd ((zero_of R1)) hne
  by_cases hf : finE (st1) = 0
  · rw [if_pos hf] at G
    simp [go_sem, hf, g.ask, g.res]
    exact ⟨g.rd.u.setB _ _ (fun h => absurd h (by have := g.ne; omega)), by rw [G]; exact ⟨_, rfl, rfl, nil_own _ _, nilE _ _⟩⟩
  · rw [if_neg hf] at G
    simp [go_sem, hf, g.ask, g.res]
    exact ⟨g.rd.u.setB _ _ (fun h => absurd h (by have := g.ne; omega)), by rw [G]; rfl⟩
set_option maxHeartbeats 1000000 in
theorem fileGetSay10 {s : Value} {l : List UInt8} (hb : BytesAt w s l) (hl : l.length ≤ 1099511627776) : CallP Tryz.prog 87 #[.int .u16 10, s] w (fun r w' => Upd noB w w' ∧ SayRes w' w.heap.size r (sayFz.get l)) := by
  obtain ⟨p, cap, rfl, hcap⟩ := hb.len
  refine call_den (args := [_, _]) Tryz.func87 rfl rfl (by simp [Tryz.ntmps87]) ?_
  simp [go_sem]
  refine CallP.mono (fileKnown_any _ _) ?_
  rintro r W ⟨rfl, hW⟩
  have hu : Upd noB w W := by rw [hW]; exact (by repeat (first | exact Upd.refl _ _ | refine Upd.alloc ?_ _ | refine Upd.drew ?_ | refine Upd.drewN ?_ _ | refine Upd.setB ?_ _ _ (fun h => absurd h (by omega))))
  have h0 : W.heap[w.heap.size]? = some (.cells zeroS.cells 39 (0, 0)) := by rw [hW, heap_alloc, if_pos rfl]
  clear hW
  simp [go_sem, known9]
  refine gen_call ?_
  intro W2 hW2
  have g := GZ.start (T := 140) hb hl hu h0 hW2
  clear hW2 h0 hu
  generalize W.heap.size = b at *
  generalize w.heap.size = rb at *
  clear W
  revert W2
  intro W g
  refine CallP.mono (fileSmall4 (m := 0) (e := 5) (by decide) g.rd) ?_
  rintro v W1 ⟨x1, rfl, p1, q1, u, st1, I, R1⟩
  replace g := g.read u I
  clear u I
  simp [go_sem, g.ask]
  refine CallP.mono (fileEnd g.rd) ?_
  have hne := g.rd.ne
  rintro v W1 ⟨rfl, u, stE, I⟩
  replace g := g.read u I
  clear u I
  have G := (sayFz).of_rd ((zero_of R1)) hne
  by_cases hf : finE (st1) = 0
  · rw [if_pos hf] at G
    simp [go_sem, hf, g.ask, g.res]
    exact ⟨g.rd.u.setB _ _ (fun h => absurd h (by have := g.ne; omega)), by rw [G]; exact ⟨_, rfl, rfl, nil_own _ _, nilE _ _⟩⟩
  · rw [if_neg hf] at G
    simp [go_sem, hf, g.ask, g.res]
    exact ⟨g.rd.u.setB _ _ (fun h => absurd h (by have := g.ne; omega)), by rw [G]; rfl⟩
set_option maxHeartbeats 1000000 in
theorem fileGetSay9 {s : Value} {l : List UInt8} (hb : BytesAt w s l) (hl : l.length ≤ 1099511627776) : CallP Tryz.prog 87 #[.int .u16 9, s] w (fun r w' => Upd noB w w' ∧ SayRes w' w.heap.size r (sayF9.get l)) := by
  obtain ⟨p, cap, rfl, hcap⟩ := hb.len
  refine call_den (args := [_, _]) Tryz.func87 rfl rfl (by simp [Tryz.ntmps87]) ?_
  simp [go_sem]
  refine CallP.mono (fileKnown_any _ _) ?_
  rintro r W ⟨rfl, hW⟩
  have hu : Upd noB w W := by rw [hW]; exact (by repeat (first | exact Upd.refl _ _ | refine Upd.alloc ?_ _ | refine Upd.drew ?_ | refine Upd.drewN ?_ _ | refine Upd.setB ?_ _ _ (fun h => absurd h (by omega))))
  have h0 : W.heap[w.heap.size]? = some (.cells zeroS.cells 39 (0, 0)) := by rw [hW, heap_alloc, if_pos rfl]
  clear hW
  simp [go_sem, known9]
  refine gen_call ?_
  intro W2 hW2
  have g := GZ.start (T := 140) hb hl hu h0 hW2
  clear hW2 h0 hu
  generalize W.heap.size = b at *
  generalize w.heap.size = rb at *
  clear W
  revert W2
  intro W g
  refine CallP.mono (fileN4 g.rd) ?_
  rintro v W1 ⟨x1, rfl, p1, q1, u, st1, I, R1⟩
  replace g := g.read u I
  clear u I
  have c1 : IntKind.u32.wrap x1 = x1 := wrap32 p1 q1
  simp [go_sem, g.ask, c1]
  refine gen_call ?_
  intro W2 hW2
  replace g := g.set _ hW2
  clear hW2
  refine CallP.mono (fileEnd g.rd) ?_
  have hne := g.rd.ne
  rintro v W1 ⟨rfl, u, stE, I⟩
  replace g := g.read u I
  clear u I
  have G := (sayF9).of_rd (R1) hne
  by_cases hf : finE (st1) = 0
  · rw [if_pos hf] at G
    simp [go_sem, hf, g.ask, g.res]
    exact ⟨g.rd.u.setB _ _ (fun h => absurd h (by have := g.ne; omega)), by rw [G]; exact ⟨_, rfl, rfl, nil_own _ _, nilE _ _⟩⟩
  · rw [if_neg hf] at G
    simp [go_sem, hf, g.ask, g.res]
    exact ⟨g.rd.u.setB _ _ (fun h => absurd h (by have := g.ne; omega)), by rw [G]; rfl⟩
end Go.Proofs.YtinfdomlpbikaaaGreatDoor
namespace Go.Proofs.YtinfdomlpbikaaaGreatDoor
open Go.Eng Go.Lib
set_option linter.unusedSimpArgs false
set_option linter.unusedVariables false
set_option maxRecDepth 100000
variable {w w0 : World}
set_option maxHeartbeats 1000000 in
theorem ref10GetAsk12 {s : Value} {l : List UInt8} (hb : BytesAt w s l) (hl : l.length ≤ 1099511627776) : CallP Tryz.prog 75 #[.int .u16 12, s] w (fun r w' => Upd noB w w' ∧ AskRes w' w.heap.size r (askFz.get l)) := by
  obtain ⟨p, cap, rfl, hcap⟩ := hb.len
  refine call_den (args := [_, _]) Tryz.func75 rfl rfl (by simp [Tryz.ntmps75]) ?_
  simp [go_sem]
  refine CallP.mono (known10_any _ _) ?_
  rintro r W ⟨rfl, hW⟩
  have hu : Upd noB w W := by rw [hW]; exact (by repeat (first | exact Upd.refl _ _ | refine Upd.alloc ?_ _ | refine Upd.drew ?_ | refine Upd.drewN ?_ _ | refine Upd.setB ?_ _ _ (fun h => absurd h (by omega))))
  have h0 : W.heap[w.heap.size]? = some (.cells zeroA.cells 34 (0, 0)) := by rw [hW, heap_alloc, if_pos rfl]
  clear hW
  simp [go_sem, known10]
  refine gen_call ?_
  intro W2 hW2
  have g := GS.start (T := 123) hb hl hu h0 hW2
  clear hW2 h0 hu
  generalize W.heap.size = b at *
  generalize w.heap.size = rb at *
  clear W
  revert W2
  intro W g
  refine CallP.mono (refMost (k := 4) (by decide) (m := 0) (e := 5) (by decide) g.rd) ?_
  rintro v W1 ⟨x1, rfl, p1, q1, u, st1, I, R1⟩
  replace g := g.read u I
  clear u I
  simp [go_sem, g.ask]
  refine CallP.mono (refEnd g.rd) ?_
  have hne := g.rd.ne
  rintro v W1 ⟨rfl, u, stE, I⟩
  replace g := g.read u I
  clear u I
  have G := (askFz).of_rd ((zero_of R1)) hne
  by_cases hf : finE (st1) = 0
  · rw [if_pos hf] at G
    simp [go_sem, hf, g.ask, g.res]
    exact ⟨g.rd.u.setB _ _ (fun h => absurd h (by have := g.ne; omega)), by rw [G]; exact ⟨_, rfl, rfl, nilW _ _, nil_own _ _, nilL _ _⟩⟩
  · rw [if_neg hf] at G
    simp [go_sem, hf, g.ask, g.res]
    exact ⟨g.rd.u.setB _ _ (fun h => absurd h (by have := g.ne; omega)), by rw [G]; rfl⟩
set_option maxHeartbeats 1000000 in
theorem ref10GetAsk14 {s : Value} {l : List UInt8} (hb : BytesAt w s l) (hl : l.length ≤ 1099511627776) : CallP Tryz.prog 75 #[.int .u16 14, s] w (fun r w' => Upd noB w w' ∧ AskRes w' w.heap.size r (askF14.get l)) := by
  obtain ⟨p, cap, rfl, hcap⟩ := hb.len
  refine call_den (args := [_, _]) Tryz.func75 rfl rfl (by simp [Tryz.ntmps75]) ?_
  simp [go_sem]
  refine CallP.mono (known10_any _ _) ?_
  rintro r W ⟨rfl, hW⟩
  have hu : Upd noB w W := by rw [hW]; exact (by repeat (first | exact Upd.refl _ _ | refine Upd.alloc ?_ _ | refine Upd.drew ?_ | refine Upd.drewN ?_ _ | refine Upd.setB ?_ _ _ (fun h => absurd h (by omega))))
  have h0 : W.heap[w.heap.size]? = some (.cells zeroA.cells 34 (0, 0)) := by rw [hW, heap_alloc, if_pos rfl]
  clear hW
  simp [go_sem, known10]
  refine gen_call ?_
  intro W2 hW2
  have g := GS.start (T := 123) hb hl hu h0 hW2
  clear hW2 h0 hu
  generalize W.heap.size = b at *
  generalize w.heap.size = rb at *
  clear W
  revert W2
  intro W g
  refine CallP.mono (refN (k := 8) (by decide) g.rd) ?_
  rintro v W1 ⟨x1, rfl, p1, q1, u, st1, I, R1⟩
  replace g := g.read u I
  clear u I
  simp [go_sem, g.ask]
  refine gen_call ?_
  intro W2 hW2
  replace g := g.set _ hW2
  clear hW2
  refine CallP.mono (refN (k := 2) (by decide) g.rd) ?_
  rintro v W1 ⟨x2, rfl, p2, q2, u, st2, I, R2⟩
  replace g := g.read u I
  clear u I
  have c2 : IntKind.u16.wrap x2 = x2 := wrap16 p2 q2
  simp [go_sem, g.ask, c2]
  refine gen_call ?_
  intro W2 hW2
  replace g := g.set _ hW2
  clear hW2
  refine CallP.mono (refMost (k := 2) (by decide) (m := 0) (e := 5) (by decide) g.rd) ?_
  rintro v W1 ⟨x3, rfl, p3, q3, u, st3, I, R3⟩
  replace g := g.read u I
  clear u I
  simp [go_sem, g.ask]
  refine CallP.mono (refText g.rd) ?_
  rintro v W1 ⟨x4, rfl, u, st4, I, R4⟩
  replace g := g.read u I
  clear u I
  simp [go_sem, g.ask]
  refine gen_call ?_
  intro W2 hW2
  replace g := g.set _ hW2
  clear hW2
  refine CallP.mono (refText g.rd) ?_
  rintro v W1 ⟨x5, rfl, u, st5, I, R5⟩
  replace g := g.read u I
  clear u I
  simp [go_sem, g.ask]
  refine gen_call ?_
  intro W2 hW2
  replace g := g.set _ hW2
  clear hW2
  refine CallP.mono (refEnd g.rd) ?_
  have hne := g.rd.ne
  rintro v W1 ⟨rfl, u, stE, I⟩
  replace g := g.read u I
  clear u I
  have G := (askF14).of_rd ((Rd.seq (D := fun _ => _) R1 (Rd.seq (D := fun _ => _) R2 (Rd.seq (D := fun _ => _) (zero_of R3) (Rd.seq (D := fun _ => _) R4 R5))))) hne
  by_cases hf : finE (st5) = 0
  · rw [if_pos hf] at G
    simp [go_sem, hf, g.ask, g.res]
    exact ⟨g.rd.u.setB _ _ (fun h => absurd h (by have := g.ne; omega)), by rw [G]; exact ⟨_, rfl, rfl, nilW _ _, nil_own _ _, nilL _ _⟩⟩
  · rw [if_neg hf] at G
    simp [go_sem, hf, g.ask, g.res]
    exact ⟨g.rd.u.setB _ _ (fun h => absurd h (by have := g.ne; omega)), by rw [G]; rfl⟩
set_option maxHeartbeats 1000000 in
theorem ref10GetAsk16 {s : Value} {l : List UInt8} (hb : BytesAt w s l) (hl : l.length ≤ 1099511627776) : CallP Tryz.prog 75 #[.int .u16 16, s] w (fun r w' => Upd noB w w' ∧ AskRes w' w.heap.size r (askFf.get l)) := by
  obtain ⟨p, cap, rfl, hcap⟩ := hb.len
  refine call_den (args := [_, _]) Tryz.func75 rfl rfl (by simp [Tryz.ntmps75]) ?_
  simp [go_sem]
  refine CallP.mono (known10_any _ _) ?_
  rintro r W ⟨rfl, hW⟩
  have hu : Upd noB w W := by rw [hW]; exact (by repeat (first | exact Upd.refl _ _ | refine Upd.alloc ?_ _ | refine Upd.drew ?_ | refine Upd.drewN ?_ _ | refine Upd.setB ?_ _ _ (fun h => absurd h (by omega))))
  have h0 : W.heap[w.heap.size]? = some (.cells zeroA.cells 34 (0, 0)) := by rw [hW, heap_alloc, if_pos rfl]
  clear hW
  simp [go_sem, known10]
  refine gen_call ?_
  intro W2 hW2
  have g := GS.start (T := 123) hb hl hu h0 hW2
  clear hW2 h0 hu
  generalize W.heap.size = b at *
  generalize w.heap.size = rb at *
  clear W
  revert W2
  intro W g
  refine CallP.mono (refN (k := 8) (by decide) g.rd) ?_
  rintro v W1 ⟨x1, rfl, p1, q1, u, st1, I, R1⟩
  replace g := g.read u I
  clear u I
  simp [go_sem, g.ask]
  refine gen_call ?_
  intro W2 hW2
  replace g := g.set _ hW2
  clear hW2
  refine CallP.mono (refEnd g.rd) ?_
  have hne := g.rd.ne
  rintro v W1 ⟨rfl, u, stE, I⟩
  replace g := g.read u I
  clear u I
  have G := (askFf).of_rd (R1) hne
  by_cases hf : finE (st1) = 0
  · rw [if_pos hf] at G
    simp [go_sem, hf, g.ask, g.res]
    exact ⟨g.rd.u.setB _ _ (fun h => absurd h (by have := g.ne; omega)), by rw [G]; exact ⟨_, rfl, rfl, nilW _ _, nil_own _ _, nilL _ _⟩⟩
  · rw [if_neg hf] at G
    simp [go_sem, hf, g.ask, g.res]
    exact ⟨g.rd.u.setB _ _ (fun h => absurd h (by have := g.ne; omega)), by rw [G]; rfl⟩
set_option maxHeartbeats 1000000 in
theorem ref10GetAsk18 {s : Value} {l : List UInt8} (hb : BytesAt w s l) (hl : l.length ≤ 1099511627776) : CallP Tryz.prog 75 #[.int .u16 18, s] w (fun r w' => Upd noB w w' ∧ AskRes w' w.heap.size r (askF18.get l)) := by
  obtain ⟨p, cap, rfl, hcap⟩ := hb.len
  refine call_den (args := [_, _]) Tryz.func75 rfl rfl (by simp [Tryz.ntmps75]) ?_
  simp [go_sem]
  refine CallP.mono (known10_any _ _) ?_
  rintro r W ⟨rfl, hW⟩
  have hu : Upd noB w W := by rw [hW]; exact (by repeat (first | exact Upd.refl _ _ | refine Upd.alloc ?_ _ | refine Upd.drew ?_ | refine Upd.drewN ?_ _ | refine Upd.setB ?_ _ _ (fun h => absurd h (by omega))))
  have h0 : W.heap[w.heap.size]? = some (.cells zeroA.cells 34 (0, 0)) := by rw [hW, heap_alloc, if_pos rfl]
  clear hW
  simp [go_sem, known10]
  refine gen_call ?_
  intro W2 hW2
  have g := GS.start (T := 123) hb hl hu h0 hW2
  clear hW2 h0 hu
  generalize W.heap.size = b at *
  generalize w.heap.size = rb at *
  clear W
  revert W2
  intro W g
  refine CallP.mono (refN (k := 8) (by decide) g.rd) ?_
  rintro v W1 ⟨x1, rfl, p1, q1, u, st1, I, R1⟩
  replace g := g.read u I
  clear u I
  simp [go_sem, g.ask]
  refine gen_call ?_
  intro W2 hW2
  replace g := g.set _ hW2
  clear hW2
  refine CallP.mono (refN (k := 1) (by decide) g.rd) ?_
  rintro v W1 ⟨x2, rfl, p2, q2, u, st2, I, R2⟩
  replace g := g.read u I
  clear u I
  have c2 : IntKind.u8.wrap x2 = x2 := wrap8 p2 q2
  simp [go_sem, g.ask, c2]
  refine gen_call ?_
  intro W2 hW2
  replace g := g.set _ hW2
  clear hW2
  refine CallP.mono (refMost (k := 1) (by decide) (m := 0) (e := 5) (by decide) g.rd) ?_
  rintro v W1 ⟨x3, rfl, p3, q3, u, st3, I, R3⟩
  replace g := g.read u I
  clear u I
  simp [go_sem, g.ask]
  refine CallP.mono (refMost (k := 2) (by decide) (m := 0) (e := 5) (by decide) g.rd) ?_
  rintro v W1 ⟨x4, rfl, p4, q4, u, st4, I, R4⟩
  replace g := g.read u I
  clear u I
  simp [go_sem, g.ask]
  refine CallP.mono (refEnd g.rd) ?_
  have hne := g.rd.ne
  rintro v W1 ⟨rfl, u, stE, I⟩
  replace g := g.read u I
  clear u I
  have G := (askF18).of_rd ((Rd.seq (D := fun _ => _) R1 (Rd.seq (D := fun _ => _) R2 (Rd.seq (D := fun _ => _) (zero_of R3) (zero_of R4))))) hne
  by_cases hf : finE (st4) = 0
  · rw [if_pos hf] at G
    simp [go_sem, hf, g.ask, g.res]
    exact ⟨g.rd.u.setB _ _ (fun h => absurd h (by have := g.ne; omega)), by rw [G]; exact ⟨_, rfl, rfl, nilW _ _, nil_own _ _, nilL _ _⟩⟩
  · rw [if_neg hf] at G
    simp [go_sem, hf, g.ask, g.res]
    exact ⟨g.rd.u.setB _ _ (fun h => absurd h (by have := g.ne; omega)), by rw [G]; rfl⟩
set_option maxHeartbeats 1000000 in
theorem ref10GetSay17 {s : Value} {l : List UInt8} (hb : BytesAt w s l) (hl : l.length ≤ 1099511627776) : CallP Tryz.prog 78 #[.int .u16 17, s] w (fun r w' => Upd noB w w' ∧ SayRes w' w.heap.size r (sayFz.get l)) := by
  obtain ⟨p, cap, rfl, hcap⟩ := hb.len
  refine call_den (args := [_, _]) Tryz.func78 rfl rfl (by simp [Tryz.ntmps78]) ?_
  simp [go_sem]
  refine CallP.mono (known10_any _ _) ?_
  rintro r W ⟨rfl, hW⟩
  have hu : Upd noB w W := by rw [hW]; exact (by repeat (first | exact Upd.refl _ _ | refine Upd.alloc ?_ _ | refine Upd.drew ?_ | refine Upd.drewN ?_ _ | refine Upd.setB ?_ _ _ (fun h => absurd h (by omega))))
  have h0 : W.heap[w.heap.size]? = some (.cells zeroS.cells 39 (0, 0)) := by rw [hW, heap_alloc, if_pos rfl]
  clear hW
  simp [go_sem, known10]
  refine gen_call ?_
  intro W2 hW2
  have g := GZ.start (T := 123) hb hl hu h0 hW2
  clear hW2 h0 hu
  generalize W.heap.size = b at *
  generalize w.heap.size = rb at *
  clear W
  revert W2
  intro W g
  refine CallP.mono (refMost (k := 4) (by decide) (m := 0) (e := 5) (by decide) g.rd) ?_
  rintro v W1 ⟨x1, rfl, p1, q1, u, st1, I, R1⟩
  replace g := g.read u I
  clear u I
  simp [go_sem, g.ask]
  refine CallP.mono (refEnd g.rd) ?_
  have hne := g.rd.ne
  rintro v W1 ⟨rfl, u, stE, I⟩
  replace g := g.read u I
  clear u I
  have G := (sayFz).of_rd ((zero_of R1)) hne
  by_cases hf : finE (st1) = 0
  · rw [if_pos hf] at G
    simp [go_sem, hf, g.ask, g.res]
    exact ⟨g.rd.u.setB _ _ (fun h => absurd h (by have := g.ne; omega)), by rw [G]; exact ⟨_, rfl, rfl, nil_own _ _, nilE _ _⟩⟩
  · rw [if_neg hf] at G
    simp [go_sem, hf, g.ask, g.res]
    exact ⟨g.rd.u.setB _ _ (fun h => absurd h (by have := g.ne; omega)), by rw [G]; rfl⟩
set_option maxHeartbeats 1000000 in
theorem ref10GetSay16 {s : Value} {l : List UInt8} (hb : BytesAt w s l) (hl : l.length ≤ 1099511627776) : CallP Tryz.prog 78 #[.int .u16 16, s] w (fun r w' => Upd noB w w' ∧ SayRes w' w.heap.size r (sayF16.get l)) := by
  obtain ⟨p, cap, rfl, hcap⟩ := hb.len
  refine call_den (args := [_, _]) Tryz.func78 rfl rfl (by simp [Tryz.ntmps78]) ?_
  simp [go_sem]
  refine CallP.mono (known10_any _ _) ?_
  rintro r W ⟨rfl, hW⟩
  have hu : Upd noB w W := by rw [hW]; exact (by repeat (first | exact Upd.refl _ _ | refine Upd.alloc ?_ _ | refine Upd.drew ?_ | refine Upd.drewN ?_ _ | refine Upd.setB ?_ _ _ (fun h => absurd h (by omega))))
  have h0 : W.heap[w.heap.size]? = some (.cells zeroS.cells 39 (0, 0)) := by rw [hW, heap_alloc, if_pos rfl]
  clear hW
  simp [go_sem, known10]
  refine gen_call ?_
  intro W2 hW2
  have g := GZ.start (T := 123) hb hl hu h0 hW2
  clear hW2 h0 hu
  generalize W.heap.size = b at *
  generalize w.heap.size = rb at *
  clear W
  revert W2
  intro W g
  refine CallP.mono (refN (k := 8) (by decide) g.rd) ?_
  rintro v W1 ⟨x1, rfl, p1, q1, u, st1, I, R1⟩
  replace g := g.read u I
  clear u I
  simp [go_sem, g.ask]
  refine gen_call ?_
  intro W2 hW2
  replace g := g.set _ hW2
  clear hW2
  refine CallP.mono (refMost (k := 2) (by decide) (m := 2) (e := 5) (by decide) g.rd) ?_
  rintro v W1 ⟨x2, rfl, p2, q2, u, st2, I, R2⟩
  replace g := g.read u I
  clear u I
  obtain ⟨y2, hy2⟩ : ∃ y, y = IntKind.u8.wrap x2 := ⟨_, rfl⟩
  replace R2 := most_as R2 (y := y2) (fun h => by rw [hy2]; exact wrap8 p2 (by omega))
  simp [go_sem, g.ask, ← hy2]
  refine gen_call ?_
  intro W2 hW2
  replace g := g.set _ hW2
  clear hW2
  refine CallP.mono (refMost (k := 2) (by decide) (m := 1) (e := 5) (by decide) g.rd) ?_
  rintro v W1 ⟨x3, rfl, p3, q3, u, st3, I, R3⟩
  replace g := g.read u I
  clear u I
  simp [go_sem, g.ask]
  refine gen_call ?_
  intro W2 hW2
  replace g := g.set _ hW2
  clear hW2
  refine CallP.mono (refEnd g.rd) ?_
  have hne := g.rd.ne
  rintro v W1 ⟨rfl, u, stE, I⟩
  replace g := g.read u I
  clear u I
  have G := (sayF16).of_rd ((Rd.seq (D := fun _ => _) R1 (Rd.seq (D := fun _ => _) R2 (bool_of R3)))) hne
  by_cases hf : finE (st3) = 0
  · rw [if_pos hf] at G
    simp [go_sem, hf, g.ask, g.res]
    exact ⟨g.rd.u.setB _ _ (fun h => absurd h (by have := g.ne; omega)), by rw [G]; exact ⟨_, rfl, rfl, nil_own _ _, nilE _ _⟩⟩
  · rw [if_neg hf] at G
    simp [go_sem, hf, g.ask, g.res]
    exact ⟨g.rd.u.setB _ _ (fun h => absurd h (by have := g.ne; omega)), by rw [G]; rfl⟩
set_option maxHeartbeats 1000000 in
theorem ref10GetSay18 {s : Value} {l : List UInt8} (hb : BytesAt w s l) (hl : l.length ≤ 1099511627776) : CallP Tryz.prog 78 #[.int .u16 18, s] w (fun r w' => Upd noB w w' ∧ SayRes w' w.heap.size r (sayF18.get l)) := by
  obtain ⟨p, cap, rfl, hcap⟩ := hb.len
  refine call_den (args := [_, _]) Tryz.func78 rfl rfl (by simp [Tryz.ntmps78]) ?_
  simp [go_sem]
  refine CallP.mono (known10_any _ _) ?_
  rintro r W ⟨rfl, hW⟩
  have hu : Upd noB w W := by rw [hW]; exact (by repeat (first | exact Upd.refl _ _ | refine Upd.alloc ?_ _ | refine Upd.drew ?_ | refine Upd.drewN ?_ _ | refine Upd.setB ?_ _ _ (fun h => absurd h (by omega))))
  have h0 : W.heap[w.heap.size]? = some (.cells zeroS.cells 39 (0, 0)) := by rw [hW, heap_alloc, if_pos rfl]
  clear hW
  simp [go_sem, known10]
  refine gen_call ?_
  intro W2 hW2
  have g := GZ.start (T := 123) hb hl hu h0 hW2
  clear hW2 h0 hu
  generalize W.heap.size = b at *
  generalize w.heap.size = rb at *
  clear W
  revert W2
  intro W g
  refine CallP.mono (refN (k := 8) (by decide) g.rd) ?_
  rintro v W1 ⟨x1, rfl, p1, q1, u, st1, I, R1⟩
  replace g := g.read u I
  clear u I
  simp [go_sem, g.ask]
  refine gen_call ?_
  intro W2 hW2
  replace g := g.set _ hW2
  clear hW2
  refine CallP.mono (refN (k := 1) (by decide) g.rd) ?_
  rintro v W1 ⟨x2, rfl, p2, q2, u, st2, I, R2⟩
  replace g := g.read u I
  clear u I
  have c2 : IntKind.u8.wrap x2 = x2 := wrap8 p2 q2
  simp [go_sem, g.ask, c2]
  refine gen_call ?_
  intro W2 hW2
  replace g := g.set _ hW2
  clear hW2
  refine CallP.mono (refMost (k := 1) (by decide) (m := 0) (e := 5) (by decide) g.rd) ?_
  rintro v W1 ⟨x3, rfl, p3, q3, u, st3, I, R3⟩
  replace g := g.read u I
  clear u I
  simp [go_sem, g.ask]
  refine CallP.mono (refMost (k := 2) (by decide) (m := 0) (e := 5) (by decide) g.rd) ?_
  rintro v W1 ⟨x4, rfl, p4, q4, u, st4, I, R4⟩
  replace g := g.read u I
  clear u I
  simp [go_sem, g.ask]
  refine CallP.mono (refEnd g.rd) ?_
  have hne := g.rd.ne
  rintro v W1 ⟨rfl, u, stE, I⟩
  replace g := g.read u I
  clear u I
  have G := (sayF18).of_rd ((Rd.seq (D := fun _ => _) R1 (Rd.seq (D := fun _ => _) R2 (Rd.seq (D := fun _ => _) (zero_of R3) (zero_of R4))))) hne
  by_cases hf : finE (st4) = 0
  · rw [if_pos hf] at G
    simp [go_sem, hf, g.ask, g.res]
    exact ⟨g.rd.u.setB _ _ (fun h => absurd h (by have := g.ne; omega)), by rw [G]; exact ⟨_, rfl, rfl, nil_own _ _, nilE _ _⟩⟩
  · rw [if_neg hf] at G
    simp [go_sem, hf, g.ask, g.res]
    exact ⟨g.rd.u.setB _ _ (fun h => absurd h (by have := g.ne; omega)), by rw [G]; rfl⟩
set_option maxHeartbeats 1000000 in
theorem ref08GetAsk2 {s : Value} {l : List UInt8} (hb : BytesAt w s l) (hl : l.length ≤ 1099511627776) : CallP Tryz.prog 73 #[.int .u16 2, s] w (fun r w' => Upd noB w w' ∧ AskRes w' w.heap.size r (askFz.get l)) := by
  obtain ⟨p, cap, rfl, hcap⟩ := hb.len
  refine call_den (args := [_, _]) Tryz.func73 rfl rfl (by simp [Tryz.ntmps73]) ?_
  simp [go_sem]
  refine CallP.mono (known8_any _ _) ?_
  rintro r W ⟨rfl, hW⟩
  have hu : Upd noB w W := by rw [hW]; exact (by repeat (first | exact Upd.refl _ _ | refine Upd.alloc ?_ _ | refine Upd.drew ?_ | refine Upd.drewN ?_ _ | refine Upd.setB ?_ _ _ (fun h => absurd h (by omega))))
  have h0 : W.heap[w.heap.size]? = some (.cells zeroA.cells 34 (0, 0)) := by rw [hW, heap_alloc, if_pos rfl]
  clear hW
  simp [go_sem, known8]
  refine gen_call ?_
  intro W2 hW2
  have g := GS.start (T := 123) hb hl hu h0 hW2
  clear hW2 h0 hu
  generalize W.heap.size = b at *
  generalize w.heap.size = rb at *
  clear W
  revert W2
  intro W g
  refine CallP.mono (refMost (k := 4) (by decide) (m := 0) (e := 5) (by decide) g.rd) ?_
  rintro v W1 ⟨x1, rfl, p1, q1, u, st1, I, R1⟩
  replace g := g.read u I
  clear u I
  simp [go_sem, g.ask]
  refine CallP.mono (refEnd g.rd) ?_
  have hne := g.rd.ne
  rintro v W1 ⟨rfl, u, stE, I⟩
  replace g := g.read u I
  clear u I
  have G := (askFz).of_rd ((zero_of R1)) hne
  by_cases hf : finE (st1) = 0
  · rw [if_pos hf] at G
    simp [go_sem, hf, g.ask, g.res]
    exact ⟨g.rd.u.setB _ _ (fun h => absurd h (by have := g.ne; omega)), by rw [G]; exact ⟨_, rfl, rfl, nilW _ _, nil_own _ _, nilL _ _⟩⟩
  · rw [if_neg hf] at G
    simp [go_sem, hf, g.ask, g.res]
    exact ⟨g.rd.u.setB _ _ (fun h => absurd h (by have := g.ne; omega)), by rw [G]; rfl⟩
set_option maxHeartbeats 1000000 in
theorem ref08GetAsk4 {s : Value} {l : List UInt8} (hb : BytesAt w s l) (hl : l.length ≤ 1099511627776) : CallP Tryz.prog 73 #[.int .u16 4, s] w (fun r w' => Upd noB w w' ∧ AskRes w' w.heap.size r (askFz.get l)) := by
  obtain ⟨p, cap, rfl, hcap⟩ := hb.len
  refine call_den (args := [_, _]) Tryz.func73 rfl rfl (by simp [Tryz.ntmps73]) ?_
  simp [go_sem]
  refine CallP.mono (known8_any _ _) ?_
  rintro r W ⟨rfl, hW⟩
  have hu : Upd noB w W := by rw [hW]; exact (by repeat (first | exact Upd.refl _ _ | refine Upd.alloc ?_ _ | refine Upd.drew ?_ | refine Upd.drewN ?_ _ | refine Upd.setB ?_ _ _ (fun h => absurd h (by omega))))
  have h0 : W.heap[w.heap.size]? = some (.cells zeroA.cells 34 (0, 0)) := by rw [hW, heap_alloc, if_pos rfl]
  clear hW
  simp [go_sem, known8]
  refine gen_call ?_
  intro W2 hW2
  have g := GS.start (T := 123) hb hl hu h0 hW2
  clear hW2 h0 hu
  generalize W.heap.size = b at *
  generalize w.heap.size = rb at *
  clear W
  revert W2
  intro W g
  refine CallP.mono (refMost (k := 4) (by decide) (m := 0) (e := 5) (by decide) g.rd) ?_
  rintro v W1 ⟨x1, rfl, p1, q1, u, st1, I, R1⟩
  replace g := g.read u I
  clear u I
  simp [go_sem, g.ask]
  refine CallP.mono (refEnd g.rd) ?_
  have hne := g.rd.ne
  rintro v W1 ⟨rfl, u, stE, I⟩
  replace g := g.read u I
  clear u I
  have G := (askFz).of_rd ((zero_of R1)) hne
  by_cases hf : finE (st1) = 0
  · rw [if_pos hf] at G
    simp [go_sem, hf, g.ask, g.res]
    exact ⟨g.rd.u.setB _ _ (fun h => absurd h (by have := g.ne; omega)), by rw [G]; exact ⟨_, rfl, rfl, nilW _ _, nil_own _ _, nilL _ _⟩⟩
  · rw [if_neg hf] at G
    simp [go_sem, hf, g.ask, g.res]
    exact ⟨g.rd.u.setB _ _ (fun h => absurd h (by have := g.ne; omega)), by rw [G]; rfl⟩
set_option maxHeartbeats 1000000 in
theorem ref08GetAsk13 {s : Value} {l : List UInt8} (hb : BytesAt w s l) (hl : l.length ≤ 1099511627776) : CallP Tryz.prog 73 #[.int .u16 13, s] w (fun r w' => Upd noB w w' ∧ AskRes w' w.heap.size r (askFz.get l)) := by
  obtain ⟨p, cap, rfl, hcap⟩ := hb.len
  refine call_den (args := [_, _]) Tryz.func73 rfl rfl (by simp [Tryz.ntmps73]) ?_
  simp [go_sem]
  refine CallP.mono (known8_any _ _) ?_
  rintro r W ⟨rfl, hW⟩
  have hu : Upd noB w W := by rw [hW]; exact (by repeat (first | exact Upd.refl _ _ | refine Upd.alloc ?_ _ | refine Upd.drew ?_ | refine Upd.drewN ?_ _ | refine Upd.setB ?_ _ _ (fun h => absurd h (by omega))))
  have h0 : W.heap[w.heap.size]? = some (.cells zeroA.cells 34 (0, 0)) := by rw [hW, heap_alloc, if_pos rfl]
  clear hW
  simp [go_sem, known8]
  refine gen_call ?_
  intro W2 hW2
  have g := GS.start (T := 123) hb hl hu h0 hW2
  clear hW2 h0 hu
  generalize W.heap.size = b at *
  generalize w.heap.size = rb at *
  clear W
  revert W2
  intro W g
  refine CallP.mono (refMost (k := 4) (by decide) (m := 0) (e := 5) (by decide) g.rd) ?_
  rintro v W1 ⟨x1, rfl, p1, q1, u, st1, I, R1⟩
  replace g := g.read u I
  clear u I
  simp [go_sem, g.ask]
  refine CallP.mono (refEnd g.rd) ?_
  have hne := g.rd.ne
  rintro v W1 ⟨rfl, u, stE, I⟩
  replace g := g.read u I
  clear u I
  have G := (askFz).of_rd ((zero_of R1)) hne
  by_cases hf : finE (st1) = 0
  · rw [if_pos hf] at G
    simp [go_sem, hf, g.ask, g.res]
    exact ⟨g.rd.u.setB _ _ (fun h => absurd h (by have := g.ne; omega)), by rw [G]; exact ⟨_, rfl, rfl, nilW _ _, nil_own _ _, nilL _ _⟩⟩
  · rw [if_neg hf] at G
    simp [go_sem, hf, g.ask, g.res]
    exact ⟨g.rd.u.setB _ _ (fun h => absurd h (by have := g.ne; omega)), by rw [G]; rfl⟩
set_option maxHeartbeats 1000000 in
theorem ref08GetAsk3 {s : Value} {l : List UInt8} (hb : BytesAt w s l) (hl : l.length ≤ 1099511627776) : CallP Tryz.prog 73 #[.int .u16 3, s] w (fun r w' => Upd noB w w' ∧ AskRes w' w.heap.size r (askF3.get l)) := by
  obtain ⟨p, cap, rfl, hcap⟩ := hb.len
  refine call_den (args := [_, _]) Tryz.func73 rfl rfl (by simp [Tryz.ntmps73]) ?_
  simp [go_sem]
  refine CallP.mono (known8_any _ _) ?_
  rintro r W ⟨rfl, hW⟩
  have hu : Upd noB w W := by rw [hW]; exact (by repeat (first | exact Upd.refl _ _ | refine Upd.alloc ?_ _ | refine Upd.drew ?_ | refine Upd.drewN ?_ _ | refine Upd.setB ?_ _ _ (fun h => absurd h (by omega))))
  have h0 : W.heap[w.heap.size]? = some (.cells zeroA.cells 34 (0, 0)) := by rw [hW, heap_alloc, if_pos rfl]
  clear hW
  simp [go_sem, known8]
  refine gen_call ?_
  intro W2 hW2
  have g := GS.start (T := 123) hb hl hu h0 hW2
  clear hW2 h0 hu
  generalize W.heap.size = b at *
  generalize w.heap.size = rb at *
  clear W
  revert W2
  intro W g
  refine CallP.mono (refText g.rd) ?_
  rintro v W1 ⟨x1, rfl, u, st1, I, R1⟩
  replace g := g.read u I
  clear u I
  simp [go_sem, g.ask]
  refine gen_call ?_
  intro W2 hW2
  replace g := g.set _ hW2
  clear hW2
  refine CallP.mono (refEnd g.rd) ?_
  have hne := g.rd.ne
  rintro v W1 ⟨rfl, u, stE, I⟩
  replace g := g.read u I
  clear u I
  have G := (askF3).of_rd (R1) hne
  by_cases hf : finE (st1) = 0
  · rw [if_pos hf] at G
    simp [go_sem, hf, g.ask, g.res]
    exact ⟨g.rd.u.setB _ _ (fun h => absurd h (by have := g.ne; omega)), by rw [G]; exact ⟨_, rfl, rfl, nilW _ _, nil_own _ _, nilL _ _⟩⟩
  · rw [if_neg hf] at G
    simp [go_sem, hf, g.ask, g.res]
    exact ⟨g.rd.u.setB _ _ (fun h => absurd h (by have := g.ne; omega)), by rw [G]; rfl⟩
set_option maxHeartbeats 1000000 in
theorem ref08GetSay1 {s : Value} {l : List UInt8} (hb : BytesAt w s l) (hl : l.length ≤ 1099511627776) : CallP Tryz.prog 76 #[.int .u16 1, s] w (fun r w' => Upd noB w w' ∧ SayRes w' w.heap.size r (sayFz.get l)) := by
  obtain ⟨p, cap, rfl, hcap⟩ := hb.len
  refine call_den (args := [_, _]) Tryz.func76 rfl rfl (by simp [Tryz.ntmps76]) ?_
  simp [go_sem]
  refine CallP.mono (known8_any _ _) ?_
  rintro r W ⟨rfl, hW⟩
  have hu : Upd noB w W := by rw [hW]; exact (by repeat (first | exact Upd.refl _ _ | refine Upd.alloc ?_ _ | refine Upd.drew ?_ | refine Upd.drewN ?_ _ | refine Upd.setB ?_ _ _ (fun h => absurd h (by omega))))
  have h0 : W.heap[w.heap.size]? = some (.cells zeroS.cells 39 (0, 0)) := by rw [hW, heap_alloc, if_pos rfl]
  clear hW
  simp [go_sem, known8]
  refine gen_call ?_
  intro W2 hW2
  have g := GZ.start (T := 123) hb hl hu h0 hW2
  clear hW2 h0 hu
  generalize W.heap.size = b at *
  generalize w.heap.size = rb at *
  clear W
  revert W2
  intro W g
  refine CallP.mono (refMost (k := 4) (by decide) (m := 0) (e := 5) (by decide) g.rd) ?_
  rintro v W1 ⟨x1, rfl, p1, q1, u, st1, I, R1⟩
  replace g := g.read u I
  clear u I
  simp [go_sem, g.ask]
  refine CallP.mono (refEnd g.rd) ?_
  have hne := g.rd.ne
  rintro v W1 ⟨rfl, u, stE, I⟩
  replace g := g.read u I
  clear u I
  have G := (sayFz).of_rd ((zero_of R1)) hne
  by_cases hf : finE (st1) = 0
  · rw [if_pos hf] at G
    simp [go_sem, hf, g.ask, g.res]
    exact ⟨g.rd.u.setB _ _ (fun h => absurd h (by have := g.ne; omega)), by rw [G]; exact ⟨_, rfl, rfl, nil_own _ _, nilE _ _⟩⟩
  · rw [if_neg hf] at G
    simp [go_sem, hf, g.ask, g.res]
    exact ⟨g.rd.u.setB _ _ (fun h => absurd h (by have := g.ne; omega)), by rw [G]; rfl⟩
set_option maxHeartbeats 1000000 in
theorem ref08GetSay2 {s : Value} {l : List UInt8} (hb : BytesAt w s l) (hl : l.length ≤ 1099511627776) : CallP Tryz.prog 76 #[.int .u16 2, s] w (fun r w' => Upd noB w w' ∧ SayRes w' w.heap.size r (sayFz.get l)) := by
  obtain ⟨p, cap, rfl, hcap⟩ := hb.len
  refine call_den (args := [_, _]) Tryz.func76 rfl rfl (by simp [Tryz.ntmps76]) ?_
  simp [go_sem]
  refine CallP.mono (known8_any _ _) ?_
  rintro r W ⟨rfl, hW⟩
  have hu : Upd noB w W := by rw [hW]; exact (by repeat (first | exact Upd.refl _ _ | refine Upd.alloc ?_ _ | refine Upd.drew ?_ | refine Upd.drewN ?_ _ | refine Upd.setB ?_ _ _ (fun h => absurd h (by omega))))
  have h0 : W.heap[w.heap.size]? = some (.cells zeroS.cells 39 (0, 0)) := by rw [hW, heap_alloc, if_pos rfl]
  clear hW
  simp [go_sem, known8]
  refine gen_call ?_
  intro W2 hW2
  have g := GZ.start (T := 123) hb hl hu h0 hW2
  clear hW2 h0 hu
  generalize W.heap.size = b at *
  generalize w.heap.size = rb at *
  clear W
  revert W2
  intro W g
  refine CallP.mono (refMost (k := 4) (by decide) (m := 0) (e := 5) (by decide) g.rd) ?_
  rintro v W1 ⟨x1, rfl, p1, q1, u, st1, I, R1⟩
  replace g := g.read u I
  clear u I
  simp [go_sem, g.ask]
  refine CallP.mono (refEnd g.rd) ?_
  have hne := g.rd.ne
  rintro v W1 ⟨rfl, u, stE, I⟩
  replace g := g.read u I
  clear u I
  have G := (sayFz).of_rd ((zero_of R1)) hne
  by_cases hf : finE (st1) = 0
  · rw [if_pos hf] at G
    simp [go_sem, hf, g.ask, g.res]
    exact ⟨g.rd.u.setB _ _ (fun h => absurd h (by have := g.ne; omega)), by rw [G]; exact ⟨_, rfl, rfl, nil_own _ _, nilE _ _⟩⟩
  · rw [if_neg hf] at G
    simp [go_sem, hf, g.ask, g.res]
    exact ⟨g.rd.u.setB _ _ (fun h => absurd h (by have := g.ne; omega)), by rw [G]; rfl⟩
set_option maxHeartbeats 1000000 in
theorem ref08GetSay3 {s : Value} {l : List UInt8} (hb : BytesAt w s l) (hl : l.length ≤ 1099511627776) : CallP Tryz.prog 76 #[.int .u16 3, s] w (fun r w' => Upd noB w w' ∧ SayRes w' w.heap.size r (sayFz.get l)) := by
  obtain ⟨p, cap, rfl, hcap⟩ := hb.len
  refine call_den (args := [_, _]) Tryz.func76 rfl rfl (by simp [Tryz.ntmps76]) ?_
  simp [go_sem]
  refine CallP.mono (known8_any _ _) ?_
  rintro r W ⟨rfl, hW⟩
  have hu : Upd noB w W := by rw [hW]; exact (by repeat (first | exact Upd.refl _ _ | refine Upd.alloc ?_ _ | refine Upd.drew ?_ | refine Upd.drewN ?_ _ | refine Upd.setB ?_ _ _ (fun h => absurd h (by omega))))
  have h0 : W.heap[w.heap.size]? = some (.cells zeroS.cells 39 (0, 0)) := by rw [hW, heap_alloc, if_pos rfl]
  clear hW
  simp [go_sem, known8]
  refine gen_call ?_
  intro W2 hW2
  have g := GZ.start (T := 123) hb hl hu h0 hW2
  clear hW2 h0 hu
  generalize W.heap.size = b at *
  generalize w.heap.size = rb at *
  clear W
  revert W2
  intro W g
  refine CallP.mono (refMost (k := 4) (by decide) (m := 0) (e := 5) (by decide) g.rd) ?_
  rintro v W1 ⟨x1, rfl, p1, q1, u, st1, I, R1⟩
  replace g := g.read u I
  clear u I
  simp [go_sem, g.ask]
  refine CallP.mono (refEnd g.rd) ?_
  have hne := g.rd.ne
  rintro v W1 ⟨rfl, u, stE, I⟩
  replace g := g.read u I
  clear u I
  have G := (sayFz).of_rd ((zero_of R1)) hne
  by_cases hf : finE (st1) = 0
  · rw [if_pos hf] at G
    simp [go_sem, hf, g.ask, g.res]
    exact ⟨g.rd.u.setB _ _ (fun h => absurd h (by have := g.ne; omega)), by rw [G]; exact ⟨_, rfl, rfl, nil_own _ _, nilE _ _⟩⟩
  · rw [if_neg hf] at G
    simp [go_sem, hf, g.ask, g.res]
    exact ⟨g.rd.u.setB _ _ (fun h => absurd h (by have := g.ne; omega)), by rw [G]; rfl⟩
set_option maxHeartbeats 1000000 in
theorem ref08GetSay4 {s : Value} {l : List UInt8} (hb : BytesAt w s l) (hl : l.length ≤ 1099511627776) : CallP Tryz.prog 76 #[.int .u16 4, s] w (fun r w' => Upd noB w w' ∧ SayRes w' w.heap.size r (sayFz.get l)) := by
  obtain ⟨p, cap, rfl, hcap⟩ := hb.len
  refine call_den (args := [_, _]) Tryz.func76 rfl rfl (by simp [Tryz.ntmps76]) ?_
  simp [go_sem]
  refine CallP.mono (known8_any _ _) ?_
  rintro r W ⟨rfl, hW⟩
  have hu : Upd noB w W := by rw [hW]; exact (by repeat (first | exact Upd.refl _ _ | refine Upd.alloc ?_ _ | refine Upd.drew ?_ | refine Upd.drewN ?_ _ | refine Upd.setB ?_ _ _ (fun h => absurd h (by omega))))
  have h0 : W.heap[w.heap.size]? = some (.cells zeroS.cells 39 (0, 0)) := by rw [hW, heap_alloc, if_pos rfl]
  clear hW
  simp [go_sem, known8]
  refine gen_call ?_
  intro W2 hW2
  have g := GZ.start (T := 123) hb hl hu h0 hW2
  clear hW2 h0 hu
  generalize W.heap.size = b at *
  generalize w.heap.size = rb at *
  clear W
  revert W2
  intro W g
  refine CallP.mono (refMost (k := 4) (by decide) (m := 0) (e := 5) (by decide) g.rd) ?_
  rintro v W1 ⟨x1, rfl, p1, q1, u, st1, I, R1⟩
  replace g := g.read u I
  clear u I
  simp [go_sem, g.ask]
  refine CallP.mono (refEnd g.rd) ?_
  have hne := g.rd.ne
  rintro v W1 ⟨rfl, u, stE, I⟩
  replace g := g.read u I
  clear u I
  have G := (sayFz).of_rd ((zero_of R1)) hne
  by_cases hf : finE (st1) = 0
  · rw [if_pos hf] at G
    simp [go_sem, hf, g.ask, g.res]
    exact ⟨g.rd.u.setB _ _ (fun h => absurd h (by have := g.ne; omega)), by rw [G]; exact ⟨_, rfl, rfl, nil_own _ _, nilE _ _⟩⟩
  · rw [if_neg hf] at G
    simp [go_sem, hf, g.ask, g.res]
    exact ⟨g.rd.u.setB _ _ (fun h => absurd h (by have := g.ne; omega)), by rw [G]; rfl⟩
set_option maxHeartbeats 1000000 in
theorem ref08GetSay13 {s : Value} {l : List UInt8} (hb : BytesAt w s l) (hl : l.length ≤ 1099511627776) : CallP Tryz.prog 76 #[.int .u16 13, s] w (fun r w' => Upd noB w w' ∧ SayRes w' w.heap.size r (sayFz.get l)) := by
  obtain ⟨p, cap, rfl, hcap⟩ := hb.len
  refine call_den (args := [_, _]) Tryz.func76 rfl rfl (by simp [Tryz.ntmps76]) ?_
  simp [go_sem]
  refine CallP.mono (known8_any _ _) ?_
  rintro r W ⟨rfl, hW⟩
  have hu : Upd noB w W := by rw [hW]; exact (by repeat (first | exact Upd.refl _ _ | refine Upd.alloc ?_ _ | refine Upd.drew ?_ | refine Upd.drewN ?_ _ | refine Upd.setB ?_ _ _ (fun h => absurd h (by omega))))
  have h0 : W.heap[w.heap.size]? = some (.cells zeroS.cells 39 (0, 0)) := by rw [hW, heap_alloc, if_pos rfl]
  clear hW
  simp [go_sem, known8]
  refine gen_call ?_
  intro W2 hW2
  have g := GZ.start (T := 123) hb hl hu h0 hW2
  clear hW2 h0 hu
  generalize W.heap.size = b at *
  generalize w.heap.size = rb at *
  clear W
  revert W2
  intro W g
  refine CallP.mono (refMost (k := 4) (by decide) (m := 0) (e := 5) (by decide) g.rd) ?_
  rintro v W1 ⟨x1, rfl, p1, q1, u, st1, I, R1⟩
  replace g := g.read u I
  clear u I
  simp [go_sem, g.ask]
  refine CallP.mono (refEnd g.rd) ?_
  have hne := g.rd.ne
  rintro v W1 ⟨rfl, u, stE, I⟩
  replace g := g.read u I
  clear u I
  have G := (sayFz).of_rd ((zero_of R1)) hne
  by_cases hf : finE (st1) = 0
  · rw [if_pos hf] at G
    simp [go_sem, hf, g.ask, g.res]
    exact ⟨g.rd.u.setB _ _ (fun h => absurd h (by have := g.ne; omega)), by rw [G]; exact ⟨_, rfl, rfl, nil_own _ _, nilE _ _⟩⟩
  · rw [if_neg hf] at G
    simp [go_sem, hf, g.ask, g.res]
    exact ⟨g.rd.u.setB _ _ (fun h => absurd h (by have := g.ne; omega)), by rw [G]; rfl⟩
end Go.Proofs.YtinfdomlpbikaaaGreatDoor
namespace Go.Proofs.YtinfdomlpbikaaaGreatDoor
open Go.Eng Go.Lib
set_option linter.unusedSimpArgs false
set_option linter.unusedVariables false
set_option maxRecDepth 100000
variable {w w0 : World}
set_option maxHeartbeats 1000000 in
theorem infoGetAsk12 {s : Value} {l : List UInt8} (hb : BytesAt w s l) (hl : l.length ≤ 1099511627776) : CallP Tryz.prog 89 #[.int .u16 12, s] w (fun r w' => Upd noB w w' ∧ AskRes w' w.heap.size r (askFz.get l)) := by
  obtain ⟨p, cap, rfl, hcap⟩ := hb.len
  refine call_den (args := [_, _]) Tryz.func89 rfl rfl (by simp [Tryz.ntmps89]) ?_
  simp [go_sem]
  refine CallP.mono (infoKnown_any _ _) ?_
  rintro r W ⟨rfl, hW⟩
  have hu : Upd noB w W := by rw [hW]; exact (by repeat (first | exact Upd.refl _ _ | refine Upd.alloc ?_ _ | refine Upd.drew ?_ | refine Upd.drewN ?_ _ | refine Upd.setB ?_ _ _ (fun h => absurd h (by omega))))
  have h0 : W.heap[w.heap.size]? = some (.cells zeroA.cells 34 (0, 0)) := by rw [hW, heap_alloc, if_pos rfl]
  clear hW
  simp [go_sem, known10]
  refine gen_call ?_
  intro W2 hW2
  have g := GS.start (T := 153) hb hl hu h0 hW2
  clear hW2 h0 hu
  generalize W.heap.size = b at *
  generalize w.heap.size = rb at *
  clear W
  revert W2
  intro W g
  refine CallP.mono (infoZero (k := 4) (by decide) g.rd) ?_
  rintro v W1 ⟨u, st1, I, R1⟩
  replace g := g.read u I
  clear u I
  simp [go_sem, g.ask]
  refine CallP.mono (infoEnd g.rd) ?_
  have hne := g.rd.ne
  rintro v W1 ⟨rfl, u, stE, I⟩
  replace g := g.read u I
  clear u I
  have G := (askFz).of_rd (R1) hne
  by_cases hf : finE (st1) = 0
  · rw [if_pos hf] at G
    simp [go_sem, hf, g.ask, g.res]
    exact ⟨g.rd.u.setB _ _ (fun h => absurd h (by have := g.ne; omega)), by rw [G]; exact ⟨_, rfl, rfl, nilW _ _, nil_own _ _, nilL _ _⟩⟩
  · rw [if_neg hf] at G
    simp [go_sem, hf, g.ask, g.res]
    exact ⟨g.rd.u.setB _ _ (fun h => absurd h (by have := g.ne; omega)), by rw [G]; rfl⟩
set_option maxHeartbeats 1000000 in
theorem infoGetAsk14 {s : Value} {l : List UInt8} (hb : BytesAt w s l) (hl : l.length ≤ 1099511627776) : CallP Tryz.prog 89 #[.int .u16 14, s] w (fun r w' => Upd noB w w' ∧ AskRes w' w.heap.size r (askF14.get l)) := by
  obtain ⟨p, cap, rfl, hcap⟩ := hb.len
  refine call_den (args := [_, _]) Tryz.func89 rfl rfl (by simp [Tryz.ntmps89]) ?_
  simp [go_sem]
  refine CallP.mono (infoKnown_any _ _) ?_
  rintro r W ⟨rfl, hW⟩
  have hu : Upd noB w W := by rw [hW]; exact (by repeat (first | exact Upd.refl _ _ | refine Upd.alloc ?_ _ | refine Upd.drew ?_ | refine Upd.drewN ?_ _ | refine Upd.setB ?_ _ _ (fun h => absurd h (by omega))))
  have h0 : W.heap[w.heap.size]? = some (.cells zeroA.cells 34 (0, 0)) := by rw [hW, heap_alloc, if_pos rfl]
  clear hW
  simp [go_sem, known10]
  refine gen_call ?_
  intro W2 hW2
  have g := GS.start (T := 153) hb hl hu h0 hW2
  clear hW2 h0 hu
  generalize W.heap.size = b at *
  generalize w.heap.size = rb at *
  clear W
  revert W2
  intro W g
  refine CallP.mono (infoN (k := 8) (by decide) g.rd) ?_
  rintro v W1 ⟨x1, rfl, p1, q1, u, st1, I, R1⟩
  replace g := g.read u I
  clear u I
  simp [go_sem, g.ask]
  refine gen_call ?_
  intro W2 hW2
  replace g := g.set _ hW2
  clear hW2
  refine CallP.mono (infoN (k := 2) (by decide) g.rd) ?_
  rintro v W1 ⟨x2, rfl, p2, q2, u, st2, I, R2⟩
  replace g := g.read u I
  clear u I
  have c2 : IntKind.u16.wrap x2 = x2 := wrap16 p2 q2
  simp [go_sem, g.ask, c2]
  refine gen_call ?_
  intro W2 hW2
  replace g := g.set _ hW2
  clear hW2
  refine CallP.mono (infoZero (k := 2) (by decide) g.rd) ?_
  rintro v W1 ⟨u, st3, I, R3⟩
  replace g := g.read u I
  clear u I
  simp [go_sem, g.ask]
  refine CallP.mono (infoText g.rd) ?_
  rintro v W1 ⟨x4, rfl, u, st4, I, R4⟩
  replace g := g.read u I
  clear u I
  simp [go_sem, g.ask]
  refine gen_call ?_
  intro W2 hW2
  replace g := g.set _ hW2
  clear hW2
  refine CallP.mono (infoText g.rd) ?_
  rintro v W1 ⟨x5, rfl, u, st5, I, R5⟩
  replace g := g.read u I
  clear u I
  simp [go_sem, g.ask]
  refine gen_call ?_
  intro W2 hW2
  replace g := g.set _ hW2
  clear hW2
  refine CallP.mono (infoEnd g.rd) ?_
  have hne := g.rd.ne
  rintro v W1 ⟨rfl, u, stE, I⟩
  replace g := g.read u I
  clear u I
  have G := (askF14).of_rd ((Rd.seq (D := fun _ => _) R1 (Rd.seq (D := fun _ => _) R2 (Rd.seq (D := fun _ => _) R3 (Rd.seq (D := fun _ => _) R4 R5))))) hne
  by_cases hf : finE (st5) = 0
  · rw [if_pos hf] at G
    simp [go_sem, hf, g.ask, g.res]
    exact ⟨g.rd.u.setB _ _ (fun h => absurd h (by have := g.ne; omega)), by rw [G]; exact ⟨_, rfl, rfl, nilW _ _, nil_own _ _, nilL _ _⟩⟩
  · rw [if_neg hf] at G
    simp [go_sem, hf, g.ask, g.res]
    exact ⟨g.rd.u.setB _ _ (fun h => absurd h (by have := g.ne; omega)), by rw [G]; rfl⟩
set_option maxHeartbeats 1000000 in
theorem infoGetAsk16 {s : Value} {l : List UInt8} (hb : BytesAt w s l) (hl : l.length ≤ 1099511627776) : CallP Tryz.prog 89 #[.int .u16 16, s] w (fun r w' => Upd noB w w' ∧ AskRes w' w.heap.size r (askFf.get l)) := by
  obtain ⟨p, cap, rfl, hcap⟩ := hb.len
  refine call_den (args := [_, _]) Tryz.func89 rfl rfl (by simp [Tryz.ntmps89]) ?_
  simp [go_sem]
  refine CallP.mono (infoKnown_any _ _) ?_
  rintro r W ⟨rfl, hW⟩
  have hu : Upd noB w W := by rw [hW]; exact (by repeat (first | exact Upd.refl _ _ | refine Upd.alloc ?_ _ | refine Upd.drew ?_ | refine Upd.drewN ?_ _ | refine Upd.setB ?_ _ _ (fun h => absurd h (by omega))))
  have h0 : W.heap[w.heap.size]? = some (.cells zeroA.cells 34 (0, 0)) := by rw [hW, heap_alloc, if_pos rfl]
  clear hW
  simp [go_sem, known10]
  refine gen_call ?_
  intro W2 hW2
  have g := GS.start (T := 153) hb hl hu h0 hW2
  clear hW2 h0 hu
  generalize W.heap.size = b at *
  generalize w.heap.size = rb at *
  clear W
  revert W2
  intro W g
  refine CallP.mono (infoN (k := 8) (by decide) g.rd) ?_
  rintro v W1 ⟨x1, rfl, p1, q1, u, st1, I, R1⟩
  replace g := g.read u I
  clear u I
  simp [go_sem, g.ask]
  refine gen_call ?_
  intro W2 hW2
  replace g := g.set _ hW2
  clear hW2
  refine CallP.mono (infoEnd g.rd) ?_
  have hne := g.rd.ne
  rintro v W1 ⟨rfl, u, stE, I⟩
  replace g := g.read u I
  clear u I
  have G := (askFf).of_rd (R1) hne
  by_cases hf : finE (st1) = 0
  · rw [if_pos hf] at G
    simp [go_sem, hf, g.ask, g.res]
    exact ⟨g.rd.u.setB _ _ (fun h => absurd h (by have := g.ne; omega)), by rw [G]; exact ⟨_, rfl, rfl, nilW _ _, nil_own _ _, nilL _ _⟩⟩
  · rw [if_neg hf] at G
    simp [go_sem, hf, g.ask, g.res]
    exact ⟨g.rd.u.setB _ _ (fun h => absurd h (by have := g.ne; omega)), by rw [G]; rfl⟩
set_option maxHeartbeats 1000000 in
theorem infoGetAsk18 {s : Value} {l : List UInt8} (hb : BytesAt w s l) (hl : l.length ≤ 1099511627776) : CallP Tryz.prog 89 #[.int .u16 18, s] w (fun r w' => Upd noB w w' ∧ AskRes w' w.heap.size r (askF18.get l)) := by
  obtain ⟨p, cap, rfl, hcap⟩ := hb.len
  refine call_den (args := [_, _]) Tryz.func89 rfl rfl (by simp [Tryz.ntmps89]) ?_
  simp [go_sem]
  refine CallP.mono (infoKnown_any _ _) ?_
  rintro r W ⟨rfl, hW⟩
  have hu : Upd noB w W := by rw [hW]; exact (by repeat (first | exact Upd.refl _ _ | refine Upd.alloc ?_ _ | refine Upd.drew ?_ | refine Upd.drewN ?_ _ | refine Upd.setB ?_ _ _ (fun h => absurd h (by omega))))
  have h0 : W.heap[w.heap.size]? = some (.cells zeroA.cells 34 (0, 0)) := by rw [hW, heap_alloc, if_pos rfl]
  clear hW
  simp [go_sem, known10]
  refine gen_call ?_
  intro W2 hW2
  have g := GS.start (T := 153) hb hl hu h0 hW2
  clear hW2 h0 hu
  generalize W.heap.size = b at *
  generalize w.heap.size = rb at *
  clear W
  revert W2
  intro W g
  refine CallP.mono (infoN (k := 8) (by decide) g.rd) ?_
  rintro v W1 ⟨x1, rfl, p1, q1, u, st1, I, R1⟩
  replace g := g.read u I
  clear u I
  simp [go_sem, g.ask]
  refine gen_call ?_
  intro W2 hW2
  replace g := g.set _ hW2
  clear hW2
  refine CallP.mono (infoN (k := 1) (by decide) g.rd) ?_
  rintro v W1 ⟨x2, rfl, p2, q2, u, st2, I, R2⟩
  replace g := g.read u I
  clear u I
  have c2 : IntKind.u8.wrap x2 = x2 := wrap8 p2 q2
  simp [go_sem, g.ask, c2]
  refine gen_call ?_
  intro W2 hW2
  replace g := g.set _ hW2
  clear hW2
  refine CallP.mono (infoZero (k := 1) (by decide) g.rd) ?_
  rintro v W1 ⟨u, st3, I, R3⟩
  replace g := g.read u I
  clear u I
  simp [go_sem, g.ask]
  refine CallP.mono (infoZero (k := 2) (by decide) g.rd) ?_
  rintro v W1 ⟨u, st4, I, R4⟩
  replace g := g.read u I
  clear u I
  simp [go_sem, g.ask]
  refine CallP.mono (infoEnd g.rd) ?_
  have hne := g.rd.ne
  rintro v W1 ⟨rfl, u, stE, I⟩
  replace g := g.read u I
  clear u I
  have G := (askF18).of_rd ((Rd.seq (D := fun _ => _) R1 (Rd.seq (D := fun _ => _) R2 (Rd.seq (D := fun _ => _) R3 R4)))) hne
  by_cases hf : finE (st4) = 0
  · rw [if_pos hf] at G
    simp [go_sem, hf, g.ask, g.res]
    exact ⟨g.rd.u.setB _ _ (fun h => absurd h (by have := g.ne; omega)), by rw [G]; exact ⟨_, rfl, rfl, nilW _ _, nil_own _ _, nilL _ _⟩⟩
  · rw [if_neg hf] at G
    simp [go_sem, hf, g.ask, g.res]
    exact ⟨g.rd.u.setB _ _ (fun h => absurd h (by have := g.ne; omega)), by rw [G]; rfl⟩
set_option maxHeartbeats 1000000 in
theorem infoGetSay17 {s : Value} {l : List UInt8} (hb : BytesAt w s l) (hl : l.length ≤ 1099511627776) : CallP Tryz.prog 91 #[.int .u16 17, s] w (fun r w' => Upd noB w w' ∧ SayRes w' w.heap.size r (sayFz.get l)) := by
  obtain ⟨p, cap, rfl, hcap⟩ := hb.len
  refine call_den (args := [_, _]) Tryz.func91 rfl rfl (by simp [Tryz.ntmps91]) ?_
  simp [go_sem]
  refine CallP.mono (infoKnown_any _ _) ?_
  rintro r W ⟨rfl, hW⟩
  have hu : Upd noB w W := by rw [hW]; exact (by repeat (first | exact Upd.refl _ _ | refine Upd.alloc ?_ _ | refine Upd.drew ?_ | refine Upd.drewN ?_ _ | refine Upd.setB ?_ _ _ (fun h => absurd h (by omega))))
  have h0 : W.heap[w.heap.size]? = some (.cells zeroS.cells 39 (0, 0)) := by rw [hW, heap_alloc, if_pos rfl]
  clear hW
  simp [go_sem, known10]
  refine gen_call ?_
  intro W2 hW2
  have g := GZ.start (T := 153) hb hl hu h0 hW2
  clear hW2 h0 hu
  generalize W.heap.size = b at *
  generalize w.heap.size = rb at *
  clear W
  revert W2
  intro W g
  refine CallP.mono (infoZero (k := 4) (by decide) g.rd) ?_
  rintro v W1 ⟨u, st1, I, R1⟩
  replace g := g.read u I
  clear u I
  simp [go_sem, g.ask]
  refine CallP.mono (infoEnd g.rd) ?_
  have hne := g.rd.ne
  rintro v W1 ⟨rfl, u, stE, I⟩
  replace g := g.read u I
  clear u I
  have G := (sayFz).of_rd (R1) hne
  by_cases hf : finE (st1) = 0
  · rw [if_pos hf] at G
    simp [go_sem, hf, g.ask, g.res]
    exact ⟨g.rd.u.setB _ _ (fun h => absurd h (by have := g.ne; omega)), by rw [G]; exact ⟨_, rfl, rfl, nil_own _ _, nilE _ _⟩⟩
  · rw [if_neg hf] at G
    simp [go_sem, hf, g.ask, g.res]
    exact ⟨g.rd.u.setB _ _ (fun h => absurd h (by have := g.ne; omega)), by rw [G]; rfl⟩
set_option maxHeartbeats 1000000 in
theorem infoGetSay16 {s : Value} {l : List UInt8} (hb : BytesAt w s l) (hl : l.length ≤ 1099511627776) : CallP Tryz.prog 91 #[.int .u16 16, s] w (fun r w' => Upd noB w w' ∧ SayRes w' w.heap.size r (sayF16.get l)) := by
  obtain ⟨p, cap, rfl, hcap⟩ := hb.len
  refine call_den (args := [_, _]) Tryz.func91 rfl rfl (by simp [Tryz.ntmps91]) ?_
  simp [go_sem]
  refine CallP.mono (infoKnown_any _ _) ?_
  rintro r W ⟨rfl, hW⟩
  have hu : Upd noB w W := by rw [hW]; exact (by repeat (first | exact Upd.refl _ _ | refine Upd.alloc ?_ _ | refine Upd.drew ?_ | refine Upd.drewN ?_ _ | refine Upd.setB ?_ _ _ (fun h => absurd h (by omega))))
  have h0 : W.heap[w.heap.size]? = some (.cells zeroS.cells 39 (0, 0)) := by rw [hW, heap_alloc, if_pos rfl]
  clear hW
  simp [go_sem, known10]
  refine gen_call ?_
  intro W2 hW2
  have g := GZ.start (T := 153) hb hl hu h0 hW2
  clear hW2 h0 hu
  generalize W.heap.size = b at *
  generalize w.heap.size = rb at *
  clear W
  revert W2
  intro W g
  refine CallP.mono (infoN (k := 8) (by decide) g.rd) ?_
  rintro v W1 ⟨x1, rfl, p1, q1, u, st1, I, R1⟩
  replace g := g.read u I
  clear u I
  simp [go_sem, g.ask]
  refine gen_call ?_
  intro W2 hW2
  replace g := g.set _ hW2
  clear hW2
  refine CallP.mono (infoMost (k := 2) (by decide) (m := 2) (e := 5) (by decide) g.rd) ?_
  rintro v W1 ⟨x2, rfl, p2, q2, u, st2, I, R2⟩
  replace g := g.read u I
  clear u I
  obtain ⟨y2, hy2⟩ : ∃ y, y = IntKind.u8.wrap x2 := ⟨_, rfl⟩
  replace R2 := most_as R2 (y := y2) (fun h => by rw [hy2]; exact wrap8 p2 (by omega))
  simp [go_sem, g.ask, ← hy2]
  refine gen_call ?_
  intro W2 hW2
  replace g := g.set _ hW2
  clear hW2
  refine CallP.mono (infoTruth g.rd) ?_
  rintro v W1 ⟨x3, rfl, u, st3, I, R3⟩
  replace g := g.read u I
  clear u I
  simp [go_sem, g.ask]
  refine gen_call ?_
  intro W2 hW2
  replace g := g.set _ hW2
  clear hW2
  refine CallP.mono (infoEnd g.rd) ?_
  have hne := g.rd.ne
  rintro v W1 ⟨rfl, u, stE, I⟩
  replace g := g.read u I
  clear u I
  have G := (sayF16).of_rd ((Rd.seq (D := fun _ => _) R1 (Rd.seq (D := fun _ => _) R2 R3))) hne
  by_cases hf : finE (st3) = 0
  · rw [if_pos hf] at G
    simp [go_sem, hf, g.ask, g.res]
    exact ⟨g.rd.u.setB _ _ (fun h => absurd h (by have := g.ne; omega)), by rw [G]; exact ⟨_, rfl, rfl, nil_own _ _, nilE _ _⟩⟩
  · rw [if_neg hf] at G
    simp [go_sem, hf, g.ask, g.res]
    exact ⟨g.rd.u.setB _ _ (fun h => absurd h (by have := g.ne; omega)), by rw [G]; rfl⟩
set_option maxHeartbeats 1000000 in
theorem infoGetSay18 {s : Value} {l : List UInt8} (hb : BytesAt w s l) (hl : l.length ≤ 1099511627776) : CallP Tryz.prog 91 #[.int .u16 18, s] w (fun r w' => Upd noB w w' ∧ SayRes w' w.heap.size r (sayF18.get l)) := by
  obtain ⟨p, cap, rfl, hcap⟩ := hb.len
  refine call_den (args := [_, _]) Tryz.func91 rfl rfl (by simp [Tryz.ntmps91]) ?_
  simp [go_sem]
  refine CallP.mono (infoKnown_any _ _) ?_
  rintro r W ⟨rfl, hW⟩
  have hu : Upd noB w W := by rw [hW]; exact (by repeat (first | exact Upd.refl _ _ | refine Upd.alloc ?_ _ | refine Upd.drew ?_ | refine Upd.drewN ?_ _ | refine Upd.setB ?_ _ _ (fun h => absurd h (by omega))))
  have h0 : W.heap[w.heap.size]? = some (.cells zeroS.cells 39 (0, 0)) := by rw [hW, heap_alloc, if_pos rfl]
  clear hW
  simp [go_sem, known10]
  refine gen_call ?_
  intro W2 hW2
  have g := GZ.start (T := 153) hb hl hu h0 hW2
  clear hW2 h0 hu
  generalize W.heap.size = b at *
  generalize w.heap.size = rb at *
  clear W
  revert W2
  intro W g
  refine CallP.mono (infoN (k := 8) (by decide) g.rd) ?_
  rintro v W1 ⟨x1, rfl, p1, q1, u, st1, I, R1⟩
  replace g := g.read u I
  clear u I
  simp [go_sem, g.ask]
  refine gen_call ?_
  intro W2 hW2
  replace g := g.set _ hW2
  clear hW2
  refine CallP.mono (infoN (k := 1) (by decide) g.rd) ?_
  rintro v W1 ⟨x2, rfl, p2, q2, u, st2, I, R2⟩
  replace g := g.read u I
  clear u I
  have c2 : IntKind.u8.wrap x2 = x2 := wrap8 p2 q2
  simp [go_sem, g.ask, c2]
  refine gen_call ?_
  intro W2 hW2
  replace g := g.set _ hW2
  clear hW2
  refine CallP.mono (infoZero (k := 1) (by decide) g.rd) ?_
  rintro v W1 ⟨u, st3, I, R3⟩
  replace g := g.read u I
  clear u I
  simp [go_sem, g.ask]
  refine CallP.mono (infoZero (k := 2) (by decide) g.rd) ?_
  rintro v W1 ⟨u, st4, I, R4⟩
  replace g := g.read u I
  clear u I
  simp [go_sem, g.ask]
  refine CallP.mono (infoEnd g.rd) ?_
  have hne := g.rd.ne
  rintro v W1 ⟨rfl, u, stE, I⟩
  replace g := g.read u I
  clear u I
  have G := (sayF18).of_rd ((Rd.seq (D := fun _ => _) R1 (Rd.seq (D := fun _ => _) R2 (Rd.seq (D := fun _ => _) R3 R4)))) hne
  by_cases hf : finE (st4) = 0
  · rw [if_pos hf] at G
    simp [go_sem, hf, g.ask, g.res]
    exact ⟨g.rd.u.setB _ _ (fun h => absurd h (by have := g.ne; omega)), by rw [G]; exact ⟨_, rfl, rfl, nil_own _ _, nilE _ _⟩⟩
  · rw [if_neg hf] at G
    simp [go_sem, hf, g.ask, g.res]
    exact ⟨g.rd.u.setB _ _ (fun h => absurd h (by have := g.ne; omega)), by rw [G]; rfl⟩
end Go.Proofs.YtinfdomlpbikaaaGreatDoor
