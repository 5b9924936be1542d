/-
  One act on both: the same answer, and the relation stays.
-/
import Derived.Test.YtnelmicecaggoaaHoldY
namespace Go.Proofs.Ytnelmicecaggoaa
open Go.Eng
set_option linter.unusedSimpArgs false
set_option linter.unusedVariables false
set_option maxRecDepth 100000
variable {w0 w : World} {hb mb rb : Nat} {E : List (HV × Nat)} {v : Value} {L : List HV} {n : Nat}
def ActOut (w0 : World) (hb mb rb : Nat) (L' : List HV) (n : Nat) (r : Value) (w' : World) : Prop := r = .bool true ∧ ∃ E' v', Rel w0 w' hb mb E' rb v' L' n
theorem Rel.more (R : Rel w0 w hb mb E rb v L n) {n' : Nat} (h : n ≤ n') : Rel w0 w hb mb E rb v L n' := { R with len := Nat.le_trans R.len h }
theorem fpH_old {w : World} {E : List (HV × Nat)} (H : HoldsRep w hb mb E) {b : Nat} (h : fpH hb mb E b) : b < w.heap.size := by
  rcases h with rfl | rfl | ⟨x, hx, rfl⟩
  · exact (old_ne H.hd).1
  · exact H.mp.lt
  · exact (old_ne (H.cells x hx)).1
theorem fpR_old {w : World} {base : Nat} (R : RefRep w base rb v L) {b : Nat} (h : fpR rb v b) : b < w.heap.size := by
  rcases h with rfl | h
  · exact (old_ne R.rd).1
  · exact (R.own.lt b h).2
def BoxS (bx : Nat) (a : ActV) (W : World) : Prop := W.heap[bx]? = some (.cells #[.int .i64 a.act, .int .i64 a.node, .int .i64 a.opn, .int .u8 a.level, .int .i64 a.others, .bool a.locked, .int .i64 a.tick] 51 (0, 0))
set_option maxHeartbeats 4000000 in
theorem act_any (R0 : Rel w0 w hb mb E rb v L n) (hn : n ≤ 500) (a : ActV) (ok : a.ok) :
    CallP Try.prog 20 #[ptrOf hb, ptrOf rb, .agg a.cells] w (ActOut w0 hb mb rb (actL a L) (n + 1)) := by
  have hcs : a.cells.size = 7 := rfl
  obtain ⟨wb, hwb⟩ : ∃ wb, wb = w.alloc (.cells a.cells 51) := ⟨_, rfl⟩
  have ub : Upd noB w wb := by rw [hwb]; exact (Upd.refl _ _).alloc _
  have R := R0.keep0 ub
  have hbx : wb.heap[w.heap.size]? = some (.cells a.cells 51 (0, 0)) := by rw [hwb, heap_alloc, if_pos rfl]
  have xH : ∀ E' w', HoldsRep w' hb mb E' → ¬ fpH hb mb E w.heap.size := fun E' w' _ h => by have := fpH_old R0.h h; omega
  have hlen : L.length ≤ 1048576 := by have := R.len; omega
  have hbase : w0.heap.size ≤ wb.heap.size := R.u.size
  have hxnH : ¬ fpH hb mb E w.heap.size := fun h => by have := fpH_old R0.h h; omega
  have hxnR : ¬ fpR rb v w.heap.size := fun h => by have := fpR_old R0.r h; omega
  unfold ActV.cells at hbx
  refine call_den (args := [_, _, _]) Try.func20 rfl rfl (by simp [Try.ntmps20]) ?_
  unfold actL
  by_cases e1 : a.act = 1
  · rw [if_pos e1]
    simp [go_sem, ActV.cells] at hwb ⊢
    rw [← hwb]
    simp [go_sem, hbx, e1]
    by_cases hbad : badG a.node a.opn a.level a.others
    · refine CallP.mono (give_bad R.h a.node a.opn a.level a.others a.locked hbad) ?_
      rintro r w1 ⟨rfl, rfl⟩
      simp [go_sem, hbx, e1]
      refine CallP.mono (refGive_bad _ a.node a.opn a.level a.others a.locked hbad) ?_
      rintro r w1 ⟨rfl, rfl⟩
      simp [go_sem, hbx, e1]
      refine ⟨rfl, E, v, ?_⟩
      unfold giveL
      rw [if_pos hbad]
      exact R.more (by omega)
    · cases hf : findE E a.opn with
      | some x =>
        have hfL : findL L a.opn = some x.1 := by rw [← R.find, hf]; rfl
        refine CallP.mono (give_twice R.h a.node a.opn a.level a.others a.locked hbad hf) ?_
        rintro r w1 ⟨rfl, rfl⟩
        simp [go_sem, hbx, e1]
        refine CallP.mono (refGive_twice R.r hlen a.node a.opn a.level a.others a.locked hbad ⟨x.1, (findL_some hfL).1, (findL_some hfL).2⟩) ?_
        rintro r w1 ⟨rfl, rfl⟩
        simp [go_sem, hbx, e1]
        refine ⟨rfl, E, v, ?_⟩
        unfold giveL
        rw [if_neg hbad, hfL]
        exact R.more (by omega)
      | none =>
        have hfL : findL L a.opn = none := by rw [← R.find, hf]; rfl
        have hno : ∀ x, x ∈ L → x.opn ≠ a.opn := fun x hx => by have := List.find?_eq_none.1 hfL x hx; simpa using this
        have hg : giveL L a.node a.opn a.level a.others a.locked = insL L a.opn ⟨a.node, a.opn, giveLv L a.node a.level a.others a.locked, false, 0, 0⟩ := by
          unfold giveL; rw [if_neg hbad, hfL]; rfl
        have hlv := give_lv R a.node a.level a.others a.locked ok.2
        rw [hg]
        unfold badG at hbad
        refine CallP.mono (give_any R.h a.node a.opn a.level a.others a.locked (by omega) (by omega) (by omega) (by omega) hf) ?_
        rintro r w1 ⟨rfl, nb, H1, hnb, u1⟩
        rw [hlv] at H1
        have hbx1 := u1.get hbx hxnH
        have R1 : RefRep w1 w0.heap.size rb v L := R.r.keep u1 (fun b hb hr => R.dj b hr hb)
        simp [go_sem, hbx1, e1]
        refine CallP.mono (refGive_any R1 R.srt (by have := R.len; omega) (by have := u1.size; omega) a.node a.opn a.level a.others a.locked hbad hno) ?_
        rintro r w2 ⟨rfl, v', R2, u2, hv2⟩
        simp only
        rw [hlv]
        simp [go_sem, e1]
        refine ⟨rfl, _, v', R.next H1 u1 ?_ R2 (u2.mono (fun b _ h => Or.inl h)) (Or.inr hv2) ?_ (insL_srt R.srt ⟨a.node, a.opn, giveLv L a.node a.level a.others a.locked, false, 0, 0⟩ hno) ?_ (by rw [insL_len_eq]; have := R.len; omega)⟩
        · intro x hx
          rcases List.mem_append.1 hx with h | h
          · exact Or.inl ⟨x, h, rfl⟩
          · simp at h; subst h; exact Or.inr hnb
        · rw [List.map_append]
          refine List.Perm.trans ?_ (insL_perm L a.opn _).symm
          exact (R.pm.append_right _).trans (List.perm_append_singleton _ _)
        · intro x hx
          rcases List.mem_cons.1 ((insL_perm L a.opn _).mem_iff.1 hx) with rfl | h
          · exact ⟨by show 1 ≤ a.opn; omega, ok.1⟩
          · exact R.rg x h
  · rw [if_neg e1]
    by_cases e2 : a.act = 2
    · rw [if_pos e2]
      simp [go_sem, ActV.cells] at hwb ⊢
      rw [← hwb]
      simp [go_sem, hbx, e1, e2]
      have Rd := R.keep0 ((Upd.refl noB wb).drew)
      refine draw_script [.pure 0, .pure 1, .pure 3, .pure 5, .still [2, 4, 6, 7], .one 8, .pure 9, .still [10, 11, 12], .pure 13] (by kernel_rfl) (by kernel_rfl) (by kernel_rfl) ?_
      simp [go_sem, hbx, e1, e2]
      refine Q_call _ _ _ (f := 16) (first := #[]) (cap := #[]) (by simp [go_sem]) (by intro args w; exact Try.call16 args w) (.int .i64 (whenI a.tick)) (fun i => ?_) ?_
      · simp [go_sem]
        refine CallP.mono (when_any a.tick _) ?_
        rintro r w1 ⟨rfl, rfl⟩
        exact ⟨rfl, rfl⟩
      simp [go_sem, hbx, e1, e2]
      refine CallP.mono (break_any Rd.h a.opn a.level (whenI a.tick)) ?_
      rintro r w1 ⟨rfl, H1, u1⟩
      obtain ⟨q1, q2, q3⟩ := break_rel Rd a.opn a.level (whenI a.tick)
      have hbx1 := u1.get (by rw [heap_drew]; exact hbx) hxnH
      have R1 : RefRep w1 w0.heap.size rb v L := Rd.r.keep u1 (fun b hb hr => R.dj b hr hb)
      simp [go_sem, hbx1, e1, e2]
      obtain ⟨bp1, bp2, bp3⟩ := breakL_props R.srt R.rg a.opn a.level (whenI a.tick)
      have Rd1 := R1.keep0 ((Upd.refl noB w1).drew)
      refine draw_script [.pure 0, .pure 1, .pure 3, .pure 5, .still [2, 4, 6, 7], .one 8, .pure 9, .still [10, 11, 12], .pure 13] (by kernel_rfl) (by kernel_rfl) (by kernel_rfl) ?_
      simp [go_sem, hbx1, e1, e2]
      refine Q_call _ _ _ (f := 16) (first := #[]) (cap := #[]) (by simp [go_sem]) (by intro args w; exact Try.call16 args w) (.int .i64 (whenI a.tick)) (fun i => ?_) ?_
      · simp [go_sem]
        refine CallP.mono (when_any a.tick _) ?_
        rintro r w2 ⟨rfl, rfl⟩
        exact ⟨rfl, rfl⟩
      simp [go_sem, hbx1, e1, e2]
      refine CallP.mono (refBreak_any Rd1 R.srt hlen a.opn a.level (whenI a.tick)) ?_
      rintro r w2 ⟨rfl, R2, u2⟩
      rw [q1, q2]
      simp [go_sem, e1, e2]
      exact ⟨rfl, _, v, Rd.next (H1.keep0 ((Upd.refl noB w1).drew)) u1.drew (fun x hx => Or.inl (break_blocks hx)) R2 (u2.mono (fun b _ h => Or.inr h)) (Or.inl rfl) q3 bp1 bp2 (by rw [bp3]; have := R.len; omega)⟩
    · rw [if_neg e2]
      by_cases e3 : a.act = 3
      · rw [if_pos e3]
        simp [go_sem, ActV.cells] at hwb ⊢
        rw [← hwb]
        simp [go_sem, hbx, e1, e2, e3]
        have Rd := R.keep0 ((Upd.refl noB wb).drew)
        obtain ⟨q1, q3⟩ := ack_rel Rd a.opn a.level
        obtain ⟨bp1, bp2, bp3⟩ := ackL_props R.srt R.rg a.opn a.level
        refine draw_script [.pure 0, .pure 1, .pure 3, .pure 6, .pure 7, .pure 9, .held [2, 4, 8, 10] 5, .one 11, .one 12, .pure 13] (by kernel_rfl) (by kernel_rfl) (by kernel_rfl) ?_
        simp [go_sem, hbx, e1, e2, e3]
        have hS : ∀ i : { W : World // BoxS w.heap.size a W }, i.1.heap[w.heap.size]? = some (.cells #[.int .i64 a.act, .int .i64 a.node, .int .i64 a.opn, .int .u8 a.level, .int .i64 a.others, .bool a.locked, .int .i64 a.tick] 51 (0, 0)) := fun i => i.2
        haveI : Nonempty { W : World // BoxS w.heap.size a W } := ⟨⟨wb, hbx⟩⟩
        refine opsPh_held _ _ (BoxS w.heap.size a) hbx ?_
        simp [go_sem, hS, hbx, e1, e2, e3]
        refine CallP.mono (ack_any Rd.h a.opn a.level) ?_
        rintro r w1 ⟨rfl, H1, u1⟩
        have hbx1 := u1.get (by rw [heap_drew]; exact hbx) hxnH
        have R1 : RefRep w1 w0.heap.size rb v L := Rd.r.keep u1 (fun b hb hr => R.dj b hr hb)
        simp [go_sem, hbx1, e1, e2, e3]
        refine ⟨hbx1, ?_⟩
        refine CallP.mono (refAck_any R1 R.srt hlen a.opn a.level) ?_
        rintro r w2 ⟨rfl, R2, u2⟩
        rw [q1]
        simp [go_sem, e1, e2, e3]
        exact ⟨rfl, _, v, Rd.next H1 u1 (fun x hx => Or.inl (ack_blocks hx)) R2 (u2.mono (fun b _ h => Or.inr h)) (Or.inl rfl) q3 bp1 bp2 (by rw [bp3]; have := R.len; omega)⟩
      · rw [if_neg e3]
        by_cases e4 : a.act = 4
        · rw [if_pos e4]
          simp [go_sem, ActV.cells] at hwb ⊢
          rw [← hwb]
          simp [go_sem, hbx, e1, e2, e3, e4]
          have Rd := R.keep0 ((Upd.refl noB wb).drew)
          refine draw_script [.pure 0, .pure 1, .pure 4, .pure 5, .held [2, 6] 3, .one 7, .one 8, .pure 9] (by kernel_rfl) (by kernel_rfl) (by kernel_rfl) ?_
          simp [go_sem, hbx, e1, e2, e3, e4]
          have hS : ∀ i : { W : World // BoxS w.heap.size a W }, i.1.heap[w.heap.size]? = some (.cells #[.int .i64 a.act, .int .i64 a.node, .int .i64 a.opn, .int .u8 a.level, .int .i64 a.others, .bool a.locked, .int .i64 a.tick] 51 (0, 0)) := fun i => i.2
          haveI : Nonempty { W : World // BoxS w.heap.size a W } := ⟨⟨wb, hbx⟩⟩
          refine opsPh_held _ _ (BoxS w.heap.size a) hbx ?_
          simp [go_sem, hS, hbx, e1, e2, e3, e4]
          refine CallP.mono (drop_any Rd.h a.opn) ?_
          rintro r w1 ⟨rfl, H1, u1⟩
          have hbx1 := u1.get (by rw [heap_drew]; exact hbx) hxnH
          have R1 : RefRep w1 w0.heap.size rb v L := Rd.r.keep u1 (fun b hb hr => R.dj b hr hb)
          simp [go_sem, hbx1, e1, e2, e3, e4]
          refine ⟨hbx1, ?_⟩
          refine CallP.mono (refDrop_any R1 R.srt hlen (by have := u1.size; have h2 : wb.drew.heap.size = wb.heap.size := rfl; omega) a.opn) ?_
          rintro r w2 ⟨rfl, v', R2, u2, hv2⟩
          have hq : (findE E a.opn).isSome = (findL L a.opn).isSome := by rw [← R.find]; simp
          rw [hq]
          simp [go_sem, e1, e2, e3, e4]
          refine ⟨rfl, _, v', Rd.next H1 u1 (fun x hx => Or.inl ⟨x, (List.mem_filter.1 hx).1, rfl⟩) R2 (u2.mono (fun b _ h => Or.inl h)) hv2 ?_ (List.Pairwise.filter _ R.srt) (fun x hx => R.rg x (List.mem_filter.1 hx).1) ?_⟩
          · rw [dropE_map]; exact R.pm.filter _
          · have h1 : (dropL L a.opn).length ≤ L.length := List.length_filter_le _ _
            have := R.len
            omega
        · rw [if_neg e4]
          simp [go_sem, ActV.cells] at hwb ⊢
          rw [← hwb]
          simp [go_sem, hbx, e1, e2, e3, e4]
          exact ⟨rfl, E, v, R.more (by omega)⟩
end Go.Proofs.Ytnelmicecaggoaa
