/-
  What is told to go down is late behind three ticks.
-/
import Derived.Test.YtnelmicecaggoaaHoldGoes
namespace Go.Proofs.Ytnelmicecaggoaa
open Go.Eng
set_option linter.unusedSimpArgs false
set_option linter.unusedVariables false
set_option maxRecDepth 100000
variable {w0 w : World} {hb mb rb : Nat} {E : List (HV × Nat)} {v : Value} {L : List HV} {n : Nat}
theorem any_find {L : List HV} (hs : Srt L) (o : Int) (p : HV → Bool) : (L.any fun x => x.opn == o && p x) = match findL L o with | some x => p x | none => false := by
  cases hf : findL L o with
  | none =>
    have hno := List.find?_eq_none.1 hf
    rw [List.any_eq_false]
    intro x hx
    have := hno x hx
    simp at this ⊢
    exact fun h => absurd h this
  | some x =>
    obtain ⟨hx, ho⟩ := findL_some hf
    simp only
    cases hp : p x with
    | true => rw [List.any_eq_true]; exact ⟨x, hx, by simp [ho, hp]⟩
    | false =>
      rw [List.any_eq_false]
      intro y hy
      simp
      intro h
      rw [hs.uniq hy hx (h.trans ho.symm)]
      exact hp
theorem wf16 {n : Int} (h : (Lit.int .u16 n).wf = true) : 0 ≤ n ∧ n < 65536 := by
  simp [Lit.wf, IntKind.min, IntKind.max, IntKind.signed, IntKind.bits] at h; omega
def isL (L : List HV) (o t : Int) : Bool := L.any fun x => x.opn == o && lateP t x
def LateJ (w1 : World) (bh bo : Nat) (F : List HV) (v : Value) (o : Int) (m : Nat) (ρ : Env) (w' : World) : Prop :=
  ∃ i : Nat, m = F.length - i ∧ i ≤ F.length ∧ (∀ j (h : j < F.length), j < i → F[j].opn ≠ o) ∧ ρ 1 = ptrOf bh ∧ ρ 2 = ptrOf bo ∧ ρ 5 = v ∧ ρ 6 = .int .i64 i ∧ Upd noB w1 w'
set_option maxHeartbeats 4000000 in
theorem is_any (R : PR w0 w hb mb E L) {bh bo : Nat} {t1 : TypeId} (o t : Int) (hbh : w.heap[bh]? = some (.cells #[ptrOf hb] t1 (0, 0))) (hbo : w.heap[bo]? = some (.cells #[.int .i64 o] 3 (0, 0))) :
    CallP Try.prog 27 #[.int .i64 t, ptrOf bh, ptrOf bo] w (fun r w' => r = .bool (isL L o t) ∧ Upd noB w w') := by
  refine call_den (args := [_, _, _]) Try.func27 rfl rfl (by simp [Try.ntmps27]) ?_
  simp [go_sem, hbh]
  refine CallP.mono (R.late t) ?_
  rintro r w1 ⟨u1, own1⟩
  have row1 := RowAt.of_own own1
  obtain ⟨F, hF⟩ : ∃ F, F = L.filter (lateP t) := ⟨_, rfl⟩
  rw [← hF] at row1
  have hFl : F.length ≤ 1000 := by rw [hF]; exact Nat.le_trans (List.length_filter_le _ _) R.len
  have hbo1 := u1.get hbo (by simp [noB])
  obtain ⟨p, cap, rfl⟩ := row1.len
  simp [go_sem]
  refine den_loop (LateJ w1 bh bo F (.slice p F.length cap) o) F.length ?_ ?_
  · exact ⟨0, rfl, Nat.zero_le _, fun j h hj => absurd hj (by omega), by simp [go_sem], by simp [go_sem], by simp [go_sem], by simp [go_sem], Upd.refl _ _⟩
  · rintro m ρ w' ⟨i, rfl, hi, hno, h1, h2, h5, h6, hu⟩
    have hbo2 := hu.get hbo1 (by simp [noB])
    by_cases hlt : i < F.length
    · have hx : (F.map opnL)[i]? = some (.int .i64 F[i].opn) := by rw [List.getElem?_map, List.getElem?_eq_getElem hlt]; rfl
      obtain ⟨q, hidx, la, _⟩ := (row1.keep hu.drew (by simp [noB])).at1 (P := Try.prog) (t := 55) (e := 3) Try.underlying55 Try.sizeOf3 Try.isAgg3 i hlt _ hx
      have hwr : IntKind.i64.wrap ((i : Int) + 1) = ((i + 1 : Nat) : Int) := wrap64_id (by omega) (by omega)
      simp [go_sem, h1, h2, h5, h6, hlt]
      refine draw_script [.pure 0, .pure 1, .still [2, 3, 4], .one 5] (by kernel_rfl) (by kernel_rfl) (by kernel_rfl) ?_
      simp [go_sem, h1, h2, h5, h6, hlt, hidx, hbo2, Q_load_fix (W := fun _ : Unit => w'.drew) (fun _ => la)]
      by_cases he : F[i].opn = o
      · simp [go_sem, he]
        refine ⟨?_, u1.trans hu.drew⟩
        have hm : F[i] ∈ L.filter (lateP t) := hF ▸ List.getElem_mem hlt
        obtain ⟨m1, m2⟩ := List.mem_filter.1 hm
        unfold isL
        have e2 : (L.any fun x => x.opn == o && lateP t x) = true := List.any_eq_true.2 ⟨F[i], m1, by simp [he, m2]⟩
        exact e2
      · simp [go_sem, h1, h2, h5, h6, he]
        exact ⟨F.length - (i + 1), by omega, i + 1, rfl, by omega, fun j h hj => (Nat.lt_or_ge j i).elim (fun g => hno j h g) (fun g => by have e : j = i := (by omega); subst e; exact he), by simp [go_sem, h1], by simp [go_sem, h2], by simp [go_sem, h5], by simp [go_sem, hwr], hu.drew⟩
    · have hi' : i = F.length := by omega
      subst hi'
      simp [go_sem, h1, h2, h5, h6]
      refine ⟨?_, u1.trans hu⟩
      unfold isL
      have e2 : (L.any fun x => x.opn == o && lateP t x) = false := by
        rw [List.any_eq_false]
        intro x hx
        simp
        intro he
        cases hl : lateP t x with
        | false => rfl
        | true =>
          have hm : x ∈ F := hF ▸ List.mem_filter.2 ⟨hx, hl⟩
          obtain ⟨j, hj, rfl⟩ := List.getElem_of_mem hm
          exact absurd he (hno j hj hj)
      exact e2
def LateK (w2 : World) (bh bo : Nat) (L : List HV) (va : Value) (o tick : Int) (m : Nat) (ρ : Env) (w' : World) : Prop :=
  ∃ i : Nat, m = L.length - i ∧ i ≤ L.length ∧ ρ 2 = .int .u16 tick ∧ ρ 4 = ptrOf bo ∧ ρ 7 = ptrOf bh ∧ ρ 10 = va ∧ ρ 11 = .bool ((L.take i).any fun x => x.opn == o && x.brk) ∧ ρ 12 = .int .i64 i ∧ Upd noB w2 w'
set_option maxHeartbeats 4000000 in
theorem holdLate_any {vl : Value} {l : List ActV} (hl : RowAt w0 7 vl l.length (l.flatMap ActV.row)) (hok : ∀ a, a ∈ l → a.ok) (hlen : l.length ≤ 9223372036854775807) (o tick : Int) (ht : 0 ≤ tick ∧ tick < 65536) :
    CallP Try.prog 9 #[vl, .int .i64 o, .int .u16 tick] w0 (fun r w' => r = .bool true ∧ Upd noB w0 w') := by
  have I := inv_play hok
  refine call_den (args := [_, _, _]) Try.func9 rfl rfl (by simp [Try.ntmps9]) ?_
  simp [go_sem]
  obtain ⟨wb, hwb⟩ : ∃ wb, wb = w0.alloc (.cells #[.int .i64 o] 3) := ⟨_, rfl⟩
  have ub : Upd noB w0 wb := by rw [hwb]; exact (Upd.refl _ _).alloc _
  have hbo : wb.heap[w0.heap.size]? = some (.cells #[.int .i64 o] 3 (0, 0)) := by rw [hwb, heap_alloc, if_pos rfl]
  rw [← hwb]
  refine CallP.mono (played_any (hl.keep ub (by simp [noB])) hok hlen) ?_
  rintro r w1 ⟨hb, mb, rb, E, v, rfl, R⟩
  simp [go_sem]
  obtain ⟨w2, hw2⟩ : ∃ w2, w2 = (w1.alloc (.cells #[.pointer none] 23)).setB w1.heap.size (.cells #[ptrOf hb] 23) := ⟨_, rfl⟩
  rw [← hw2]
  have u2 : Upd noB w1 w2 := by rw [hw2]; exact ((Upd.refl noB w1).alloc _).setB _ _ (fun h => absurd h (by omega))
  have hbh2 : w2.heap[w1.heap.size]? = some (.cells #[ptrOf hb] 23 (0, 0)) := by rw [hw2, heap_setB, if_pos rfl, heap_alloc, if_pos rfl]; rfl
  have R2 := R.keep0 u2
  have hbo2 : w2.heap[w0.heap.size]? = some (.cells #[.int .i64 o] 3 (0, 0)) := u2.get (R.u.get hbo (by simp [noB])) (by simp [noB])
  have hLl : (playL l).length ≤ 60 := R.len
  refine CallP.mono (all_rel R2 (by omega)) ?_
  rintro va w3 ⟨u3, own3⟩
  have R3 := R2.keep0 u3
  have Q3 := R3.toPR (by omega)
  have hbo3 := u3.get hbo2 (by simp [noB])
  have hbh3 := u3.get hbh2 (by simp [noB])
  clear hl hlen hw2 hwb
  generalize playL l = L at *
  obtain ⟨pa, ca, rfl⟩ := (RowAt.of_own own3).len
  simp [go_sem]
  refine den_loop (LateK w3 w1.heap.size w0.heap.size L (.slice pa L.length ca) o tick) L.length ?_ ?_
  · exact ⟨0, rfl, Nat.zero_le _, by simp [go_sem], by simp [go_sem], by simp [go_sem], by simp [go_sem], by simp [go_sem], by simp [go_sem], Upd.refl _ _⟩
  · rintro m ρ w' ⟨i, rfl, hi, h2, h4, h7, h10, h11, h12, hu⟩
    have hbo4 := hu.get hbo3 (by simp [noB])
    have hbh4 := hu.get hbh3 (by simp [noB])
    by_cases hlt : i < L.length
    · obtain ⟨b, cap, c, hv, hbb, hc⟩ := own_read own3 (by omega)
      injection hv with hp _ hcap
      subst hp hcap
      have hbw := hu.get hbb (by simp [noB])
      obtain ⟨i0, i1, i2, i3, i4, i5⟩ := hc i hlt
      have hwri : IntKind.i64.wrap ((i : Int) + 1) = ((i + 1 : Nat) : Int) := wrap64_id (by omega) (by omega)
      have hidx := fun kk W => holdIndex b ca L.length i hlt kk W
      have hany : ((L.take (i + 1)).any fun x => x.opn == o && x.brk) = (((L.take i).any fun x => x.opn == o && x.brk) || (L[i].opn == o && L[i].brk)) := by
        rw [List.take_succ_eq_append_getElem hlt, List.any_append]; simp
      have fin : ∀ ρ' : Env, ρ' 2 = .int .u16 tick → ρ' 4 = ptrOf w0.heap.size → ρ' 7 = ptrOf w1.heap.size → ρ' 10 = .slice (some ⟨b, 0, none⟩) L.length ca → ρ' 11 = .bool (((L.take i).any fun x => x.opn == o && x.brk) || (L[i].opn == o && L[i].brk)) → ρ' 12 = .int .i64 (IntKind.i64.wrap ((i : Int) + 1)) →
          ∃ m', m' < L.length - i ∧ LateK w3 w1.heap.size w0.heap.size L (.slice (some ⟨b, 0, none⟩) L.length ca) o tick m' ρ' w'.drew := by
        intro ρ' e2 e4 e7 e10 e11 e12
        exact ⟨L.length - (i + 1), by omega, i + 1, rfl, by omega, e2, e4, e7, e10, by rw [hany]; exact e11, by rw [e12, hwri], hu.drew⟩
      generalize (L.take i).any (fun x => x.opn == o && x.brk) = acc at *
      cases acc with
      | true =>
        simp [go_sem, h2, h4, h7, h10, h11, h12, hlt]
        refine draw_script [.pure 0, .pure 1, .pure 2, .pure 3, .still [4, 5, 6, 7], .one 8, .pure 9, .pure 10, .pure 11, .one 12, .pure 13, .one 14, .one 15, .one 16, .pure 17] (by kernel_rfl) (by kernel_rfl) (by kernel_rfl) ?_
        simp [go_sem, h2, h4, h7, h10, h11, h12, hlt]
        apply fin <;> simp [go_sem, h2, h4, h7, h10, h11, h12]
      | false =>
        by_cases he : L[i].opn = o
        · rw [he] at i1
          simp [go_sem, h2, h4, h7, h10, h11, h12, hlt]
          refine draw_script [.pure 0, .pure 1, .pure 2, .pure 3, .still [4, 5, 6, 7], .one 8, .pure 9, .pure 10, .pure 11, .one 12, .pure 13, .one 14, .one 15, .one 16, .pure 17] (by kernel_rfl) (by kernel_rfl) (by kernel_rfl) ?_
          simp [go_sem, h2, h4, h7, h10, h11, h12, hlt, hidx, hbw, hbo4, i1, i3]
          apply fin <;> simp [go_sem, h2, h4, h7, h10, h11, h12, he]
        · simp [go_sem, h2, h4, h7, h10, h11, h12, hlt]
          refine draw_script [.pure 0, .pure 1, .pure 2, .pure 3, .still [4, 5, 6, 7], .one 8, .pure 9, .pure 10, .pure 11, .one 12, .pure 13, .one 14, .one 15, .one 16, .pure 17] (by kernel_rfl) (by kernel_rfl) (by kernel_rfl) ?_
          simp [go_sem, h2, h4, h7, h10, h11, h12, hlt, hidx, hbw, hbo4, i1, i3, he]
          apply fin <;> simp [go_sem, h2, h4, h7, h10, h11, h12, he]
    · have hi' : i = L.length := by omega
      subst hi'
      have hwt : IntKind.i64.wrap tick = tick := wrap64_id (by omega) (by omega)
      have Q4 := Q3.keep0 hu
      simp [go_sem, h2, h4, h7, h10, h11, h12, hbo4, hbh4, hwt]
      refine CallP.mono (Q4.brk o 0 tick) ?_
      rintro r w5 ⟨rfl, E5, R5, u5, s5⟩
      have hbo5 := u5.get hbo4 (fun h => by have := R.hn _ h; have := (old_ne hbo).1; omega)
      have hbh5 := u5.get hbh4 (fun h => by have := fpH_old R.h h; omega)
      rw [List.take_length, any_find I.srt o (fun x => x.brk)] at h11
      have hnb : ∀ b, fpH hb mb E5 b → b ≠ w0.heap.size ∧ b ≠ w1.heap.size := fun b h => ⟨fun e => by have := R.hn b (s5 b h); have := (old_ne hbo).1; omega, fun e => by have := fpH_old R.h (s5 b h); omega⟩
      have uw5 : Upd noB w0 w5 := ub.trans R5.u
      clear R R2 R3 Q3 own3 Q4 u5
      simp [go_sem, h2, h4, h7, h10, h11, h12]
      cases hf : findL L o with
      | none =>
        have e1 : (breakL L o 0 tick).2.1 = 15 := by unfold breakL; rw [hf]
        simp [go_sem, h2, h4, h7, h10, h11, h12, e1]
        refine CallP.mono (works_any w5) ?_
        rintro r w6 ⟨rfl, u6⟩
        simp [go_sem]
        exact uw5.trans u6
      | some x =>
        obtain ⟨hxL, hxo⟩ := findL_some hf
        rw [hf] at h11
        simp only at h11
        by_cases hlv : x.level ≤ 0
        · have e1 : (breakL L o 0 tick).2.1 = 2 := by unfold breakL; rw [hf]; simp only [hlv, if_true]
          simp [go_sem, h2, h4, h7, h10, h11, h12, e1]
          refine CallP.mono (works_any w5) ?_
          rintro r w6 ⟨rfl, u6⟩
          simp [go_sem]
          exact uw5.trans u6
        · cases hb5 : x.brk with
          | true =>
            have e1 : (breakL L o 0 tick).2.1 = 0 := by unfold breakL; rw [hf]; simp only [hlv, if_false, hb5, if_true]
            rw [hb5] at h11
            simp [go_sem, h2, h4, h7, h10, h11, h12, e1]
            refine CallP.mono (works_any w5) ?_
            rintro r w6 ⟨rfl, u6⟩
            simp [go_sem]
            exact uw5.trans u6
          | false =>
            obtain ⟨h, hh⟩ : ∃ h : HV, h = { x with brk := true, to := 0, since := tick } := ⟨_, rfl⟩
            have eB : breakL L o 0 tick = (true, 0, updL L o h) := by unfold breakL; rw [hf, hh]; simp only [hlv, if_false, hb5, Bool.false_eq_true]
            have ho : h.opn = o := by rw [hh]; exact hxo
            rw [hb5] at h11
            rw [eB] at R5 ⊢
            have s1 : Srt (updL L o h) := I.srt.upd o h ho
            have f1 : findL (updL L o h) o = some h := find_updL hf ho
            have k1 : isL (updL L o h) o (tick + 2) = false := by
              unfold isL
              rw [any_find s1, f1]
              have hw2 : IntKind.i64.wrap 2 = 2 := by decide
              simp [lateP, hh, hw2, show tick + 2 - tick = 2 by omega]
            have k2 : isL (updL L o h) o (tick + 3) = true := by
              unfold isL
              rw [any_find s1, f1]
              have hw2 : IntKind.i64.wrap 3 = 3 := by decide
              have hle : tick ≤ tick + 3 := by omega
              simp [lateP, hh, hw2, hle, show tick + 3 - tick = 3 by omega]
            have k3 : isL (updL L o h) o (tick + 100) = true := by
              unfold isL
              rw [any_find s1, f1]
              have hw2 : IntKind.i64.wrap 100 = 100 := by decide
              have hle : tick ≤ tick + 100 := by omega
              simp [lateP, hh, hw2, hle, show tick + 100 - tick = 100 by omega]
            have hw3 : IntKind.i64.wrap (tick + 3) = tick + 3 := wrap64_id (by omega) (by omega)
            have hw2 : IntKind.i64.wrap (tick + 3 - 1) = tick + 2 := by rw [wrap64_id (by omega) (by omega)]; omega
            have hw100 : IntKind.i64.wrap (tick + 100) = tick + 100 := wrap64_id (by omega) (by omega)
            obtain ⟨h3, hh3⟩ : ∃ h3 : HV, h3 = ⟨h.node, o, 0, false, 0, 0⟩ := ⟨_, rfl⟩
            have eA : ackL (updL L o h) o 0 = (0, updL (updL L o h) o h3) := by unfold ackL; rw [f1, hh3]; simp [hh]
            have s2 : Srt (updL (updL L o h) o h3) := s1.upd o h3 (by rw [hh3])
            have f2 : findL (updL (updL L o h) o h3) o = some h3 := find_updL f1 (by rw [hh3])
            have k4 : isL (updL (updL L o h) o h3) o (tick + 100) = false := by
              unfold isL
              rw [any_find s2, f2]
              simp [lateP, hh3]
            have k5 : levelL (updL (updL L o h) o h3) o = 0 := by unfold levelL; rw [f2, hh3]
            simp [go_sem, h2, h4, h7, h10, h11, h12, hw3, hw2]
            refine CallP.mono (is_any R5 o (tick + 2) hbh5 hbo5) ?_
            rintro r w6 ⟨rfl, u6⟩
            have R6 := R5.keep0 u6
            have hbh6 := u6.get hbh5 (by simp [noB])
            have hbo6 := u6.get hbo5 (by simp [noB])
            rw [k1]
            simp [go_sem, h2, h4, h7, h10, h11, h12, hw3]
            refine CallP.mono (is_any R6 o (tick + 3) hbh6 hbo6) ?_
            rintro r w7 ⟨rfl, u7⟩
            have R7 := R6.keep0 u7
            have hbh7 := u7.get hbh6 (by simp [noB])
            have hbo7 := u7.get hbo6 (by simp [noB])
            rw [k2]
            simp [go_sem, h2, h4, h7, h10, h11, h12, hw100]
            refine CallP.mono (is_any R7 o (tick + 100) hbh7 hbo7) ?_
            rintro r w8 ⟨rfl, u8⟩
            have R8 := R7.keep0 u8
            have hbh8 := u8.get hbh7 (by simp [noB])
            have hbo8 := u8.get hbo7 (by simp [noB])
            rw [k3]
            simp [go_sem, h2, h4, h7, h10, h11, h12, hbh8, hbo8]
            refine CallP.mono (R8.ack o 0) ?_
            rintro r w9 ⟨rfl, E9, R9, u9, s9⟩
            have hbh9 := u9.get hbh8 (fun h => (hnb _ h).2 rfl)
            have hbo9 := u9.get hbo8 (fun h => (hnb _ h).1 rfl)
            rw [eA] at R9 ⊢
            simp [go_sem, h2, h4, h7, h10, h11, h12, hw100]
            refine CallP.mono (is_any R9 o (tick + 100) hbh9 hbo9) ?_
            rintro r w10 ⟨rfl, u10⟩
            have R10 := R9.keep0 u10
            have hbh10 := u10.get hbh9 (by simp [noB])
            have hbo10 := u10.get hbo9 (by simp [noB])
            rw [k4]
            simp [go_sem, h2, h4, h7, h10, h11, h12, hbh10, hbo10]
            refine CallP.mono (level_any R10.h o) ?_
            rintro r w11 ⟨rfl, u11⟩
            rw [R10.level, k5]
            simp [go_sem, h2, h4, h7, h10, h11, h12]
            refine CallP.mono (works_any w11) ?_
            rintro r w12 ⟨rfl, u12⟩
            simp [go_sem]
            exact ((ub.trans R10.u).trans u11).trans u12
end Go.Proofs.Ytnelmicecaggoaa
