/-
  Where all that must go down goes down, nothing must any more.
-/
import Derived.Test.YtnelmicecaggoaaHoldAlone
namespace Go.Proofs.Ytnelmicecaggoaa
open Go.Eng
set_option linter.unusedSimpArgs false
set_option linter.unusedVariables false
set_option maxRecDepth 100000
variable {w0 w : World} {hb mb rb : Nat} {E : List (HV × Nat)} {v : Value} {L : List HV} {n : Nat}
/-! ### the law -/
theorem find_of {L : List HV} (hs : Srt L) {x : HV} (hx : x ∈ L) : findL L x.opn = some x := by
  obtain ⟨i, hi, rfl⟩ := List.getElem_of_mem hx
  exact findL_at hs i hi rfl
theorem updL_upd {L : List HV} {o : Int} {h1 h2 : HV} (ho : h1.opn = o) : updL (updL L o h1) o h2 = updL L o h2 := by
  unfold updL
  rw [List.map_map]
  refine List.map_congr_left fun y _ => ?_
  simp only [Function.comp_apply]
  by_cases h : y.opn == o
  · simp [h, ho]
  · simp [h]
theorem find_updL {L : List HV} {o : Int} {x h : HV} (hx : findL L o = some x) (ho : h.opn = o) : findL (updL L o h) o = some h := by
  obtain ⟨h1, h2⟩ := findL_some hx
  unfold findL updL at *
  induction L with
  | nil => cases h1
  | cons y r ih =>
    simp only [List.map_cons, List.find?_cons] at hx ⊢
    by_cases hy : y.opn == o
    · simp [hy, ho]
    · simp only [hy, if_false, Bool.false_eq_true] at hx ⊢
      rcases List.mem_cons.1 h1 with rfl | h1
      · simp [h2] at hy
      · exact ih hx h1
theorem goes_step {L : List HV} (I : InvL L) {x : HV} (hx : x ∈ L) {to : Int} (h0 : 0 ≤ to) (hl : to < x.level) (t : Int) :
    (breakL L x.opn to t).2.1 = 0 ∧ (ackL (breakL L x.opn to t).2.2 x.opn 0).1 = 0 ∧ (ackL (breakL L x.opn to t).2.2 x.opn 0).2 = updL L x.opn ⟨x.node, x.opn, 0, false, 0, 0⟩ := by
  have hf := find_of I.srt hx
  have hnl : ¬ x.level ≤ to := by omega
  have key : ∀ h : HV, h.opn = x.opn → h.node = x.node → h.brk = true → 0 ≤ h.to → (ackL (updL L x.opn h) x.opn 0).1 = 0 ∧ (ackL (updL L x.opn h) x.opn 0).2 = updL L x.opn ⟨x.node, x.opn, 0, false, 0, 0⟩ := by
    intro h ho hn hb ht
    have ht' : ¬ h.to < 0 := by omega
    unfold ackL
    rw [find_updL hf ho]
    simp only [hb, if_true, if_neg ht', updL_upd ho, hn]
    exact ⟨trivial, trivial⟩
  cases hb : x.brk with
  | true =>
    have hto := (I.ok x hx).2.2 hb
    have e : breakL L x.opn to t = (decide (to < x.to), 0, updL L x.opn { x with to := min x.to to }) := by unfold breakL; rw [hf]; simp only [hb, hnl, if_true, if_false]
    rw [e]
    exact ⟨rfl, key { x with to := min x.to to } rfl rfl hb (by show 0 ≤ min x.to to; omega)⟩
  | false =>
    have e : breakL L x.opn to t = (true, 0, updL L x.opn { x with brk := true, to := to, since := t }) := by unfold breakL; rw [hf]; simp only [hb, hnl, if_false, Bool.false_eq_true]
    rw [e]
    exact ⟨rfl, key { x with brk := true, to := to, since := t } rfl rfl rfl h0⟩
theorem goes_inv {L : List HV} (I : InvL L) {x : HV} (hx : x ∈ L) : InvL (updL L x.opn ⟨x.node, x.opn, 0, false, 0, 0⟩) :=
  inv_upd I (find_of I.srt hx) rfl rfl ⟨Int.le_refl _, (by decide : (0 : Int) ≤ 3), fun h => by cases h⟩ (I.ok x hx).1
theorem filter_upd (p : HV → Bool) (o : Int) (h : HV) (hp : p h = false) : ∀ L : List HV, (updL L o h).filter p = (L.filter p).filter (fun y => y.opn != o)
  | [] => rfl
  | y :: r => by
    have ih := filter_upd p o h hp r
    unfold updL at ih ⊢
    simp only [List.map_cons, List.filter_cons]
    by_cases hy : y.opn = o
    · simp only [hy, beq_self_eq_true, if_true, hp, Bool.false_eq_true, if_false, ih]
      split
      · simp [hy]
      · rfl
    · have hy' : (y.opn == o) = false := by simpa using hy
      simp only [hy', Bool.false_eq_true, if_false, ih]
      split
      · simp [hy]
      · rfl
theorem filter_step {L : List HV} (hs : Srt L) {p : HV → Bool} {x : HV} {R : List HV} (hf : L.filter p = x :: R) (h : HV) (hp : p h = false) : (updL L x.opn h).filter p = R := by
  rw [filter_upd p x.opn h hp, hf]
  have h1 : Srt (x :: R) := hf ▸ List.Pairwise.filter _ hs
  rw [Srt, List.pairwise_cons] at h1
  simp only [List.filter_cons, bne_self_eq_false, Bool.false_eq_true, if_false]
  exact List.filter_eq_self.2 fun y hy => by have := h1.1 y hy; simp; omega
/-! ### the program's holds alone -/
structure PR (w0 w : World) (hb mb : Nat) (E : List (HV × Nat)) (L : List HV) : Prop where
  h : HoldsRep w hb mb E
  u : Upd noB w0 w
  hn : NewSince w0.heap.size hb mb E
  pm : (E.map (·.1)).Perm L
  srt : Srt L
  rg : ∀ x, x ∈ L → 1 ≤ x.opn ∧ x.opn < 9223372036854775808
  len : L.length ≤ 1000
theorem PR.elen (R : PR w0 w hb mb E L) : E.length = L.length := by rw [← R.pm.length_eq, List.length_map]
theorem PR.hO (R : PR w0 w hb mb E L) : ∀ x, x ∈ E → 1 ≤ x.1.opn ∧ x.1.opn < 9223372036854775808 := fun x hx => R.rg _ (R.pm.mem_iff.1 (List.mem_map.2 ⟨x, hx, rfl⟩))
theorem PR.keep0 {w' : World} (R : PR w0 w hb mb E L) (hu : Upd noB w w') : PR w0 w' hb mb E L :=
  { R with h := R.h.keep0 hu, u := R.u.trans hu }
theorem Rel.toPR (R : Rel w0 w hb mb E rb v L n) (hn : n ≤ 1000) : PR w0 w hb mb E L := ⟨R.h, R.u, R.hn, R.pm, R.srt, R.rg, Nat.le_trans R.len hn⟩
theorem PR.find (R : PR w0 w hb mb E L) (o : Int) : (findE E o).map (·.1) = findL L o := by
  cases hE : findE E o with
  | some x =>
    obtain ⟨hx, ho⟩ := findE_some hE
    have hxL : x.1 ∈ L := R.pm.mem_iff.1 (List.mem_map.2 ⟨x, hx, rfl⟩)
    obtain ⟨i, hi, he⟩ := List.getElem_of_mem hxL
    rw [findL_at R.srt i hi (he ▸ ho), he]
    rfl
  | none =>
    rw [findL_none]
    · rfl
    · intro x hx ho
      obtain ⟨y, hy, rfl⟩ := List.mem_map.1 (R.pm.mem_iff.2 hx)
      have := List.find?_eq_none.1 hE y hy
      simp [ho] at this
theorem PR.next {w1 : World} {E' : List (HV × Nat)} {L' : List HV} (R : PR w0 w hb mb E L) (h1 : HoldsRep w1 hb mb E') (u1 : Upd (fpH hb mb E) w w1) (hn : NewSince w0.heap.size hb mb E') (pm : (E'.map (·.1)).Perm L') (srt : Srt L') (rg : ∀ x, x ∈ L' → 1 ≤ x.opn ∧ x.opn < 9223372036854775808) (len : L'.length = L.length) : PR w0 w1 hb mb E' L' :=
  ⟨h1, new_upd R.hn R.u u1, hn, pm, srt, rg, by rw [len]; exact R.len⟩
theorem PR.brk (R : PR w0 w hb mb E L) (o to tick : Int) :
    CallP Try.prog 15 #[ptrOf hb, .int .i64 o, .int .u8 to, .int .i64 tick] w (fun v w' => v = .tuple #[.bool (breakL L o to tick).1, .int .i64 (breakL L o to tick).2.1] ∧ ∃ E', PR w0 w' hb mb E' (breakL L o to tick).2.2 ∧ Upd (fpH hb mb E) w w' ∧ ∀ b, fpH hb mb E' b → fpH hb mb E b) := by
  refine CallP.mono (break_any R.h o to tick) ?_
  rintro v w' ⟨rfl, H, u⟩
  have hf := R.find o
  obtain ⟨p1, p2, p3⟩ := breakL_props R.srt R.rg o to tick
  have key : (breakE E o to tick).1 = (breakL L o to tick).1 ∧ (breakE E o to tick).2.1 = (breakL L o to tick).2.1 ∧ ((breakE E o to tick).2.2.map (·.1)).Perm (breakL L o to tick).2.2 := by
    unfold breakE breakL
    cases hE : findE E o with
    | none =>
      rw [hE] at hf
      rw [← hf]
      exact ⟨rfl, rfl, R.pm⟩
    | some x =>
      rw [hE] at hf
      rw [← hf]
      simp only [Option.map_some]
      by_cases h1 : x.1.level ≤ to
      · simp only [h1, if_true]; exact ⟨trivial, trivial, R.pm⟩
      · cases h2 : x.1.brk <;> simp only [h1, if_false, if_true, Bool.false_eq_true] <;> refine ⟨trivial, trivial, ?_⟩ <;> rw [updE_map] <;> exact R.pm.map _
  rw [key.1, key.2.1]
  exact ⟨rfl, _, R.next H u (R.hn.brk o to tick) key.2.2 p1 p2 p3, u, fun b hb' => fpH_sub (fun x hx => break_blocks hx) hb'⟩
theorem PR.ack (R : PR w0 w hb mb E L) (o lv : Int) :
    CallP Try.prog 17 #[ptrOf hb, .int .i64 o, .int .u8 lv] w (fun v w' => v = .int .i64 (ackL L o lv).1 ∧ ∃ E', PR w0 w' hb mb E' (ackL L o lv).2 ∧ Upd (fpH hb mb E) w w' ∧ ∀ b, fpH hb mb E' b → fpH hb mb E b) := by
  refine CallP.mono (ack_any R.h o lv) ?_
  rintro v w' ⟨rfl, H, u⟩
  have hf := R.find o
  obtain ⟨p1, p2, p3⟩ := ackL_props R.srt R.rg o lv
  have key : (ackE E o lv).1 = (ackL L o lv).1 ∧ ((ackE E o lv).2.map (·.1)).Perm (ackL L o lv).2 := by
    unfold ackE ackL
    cases hE : findE E o with
    | none =>
      rw [hE] at hf
      rw [← hf]
      exact ⟨rfl, R.pm⟩
    | some x =>
      rw [hE] at hf
      rw [← hf]
      simp only [Option.map_some]
      by_cases h1 : x.1.to < lv
      · cases h2 : x.1.brk <;> simp only [h1, if_false, if_true, Bool.false_eq_true] <;> exact ⟨trivial, R.pm⟩
      · cases h2 : x.1.brk <;> simp only [h1, if_false, if_true, Bool.false_eq_true]
        · exact ⟨trivial, R.pm⟩
        · refine ⟨trivial, ?_⟩
          rw [updE_map]
          exact R.pm.map _
  rw [key.1]
  exact ⟨rfl, _, R.next H u (R.hn.ack o lv) key.2 p1 p2 p3, u, fun b hb' => fpH_sub (fun x hx => ack_blocks hx) hb'⟩
theorem PR.filt {F : List (HV × Nat)} {p : HV → Bool} (R : PR w0 w hb mb E L) (hp : F.Perm (E.filter fun x => p x.1)) (hs : F.Pairwise (fun x y => x.1.opn < y.1.opn)) : F.map (·.1) = L.filter p := by
  refine srt_perm ?_ (List.pairwise_map.2 hs) (List.Pairwise.filter _ R.srt)
  have h1 := hp.map (fun x : HV × Nat => x.1)
  refine h1.trans ?_
  have h2 : (E.filter fun x => p x.1).map (·.1) = (E.map (·.1)).filter p := by rw [List.filter_map]; rfl
  rw [h2]
  exact R.pm.filter _
theorem PR.must (R : PR w0 w hb mb E L) (node o why : Int) : CallP Try.prog 14 #[ptrOf hb, .int .i64 node, .int .i64 o, .int .u8 why] w (fun r w' => Upd noB w w' ∧
    w'.ownsRow w.heap.size 40 2 r (mustL L node o why).length ((mustL L node o why).flatMap (brkL (toOf why)))) := by
  unfold mustL
  by_cases hw : why = 1 ∨ why = 2 ∨ why = 3
  · rw [if_pos hw]
    refine CallP.mono (must_any R.h R.hO (by rw [R.elen]; have := R.len; omega) node o why hw) ?_
    rintro r w' ⟨hu, F, hp, hs, own⟩
    have e := R.filt hp hs
    rw [← e, List.length_map, List.flatMap_map]
    exact ⟨hu, own⟩
  · rw [if_neg hw]
    refine CallP.mono (must_other R.h node o why hw) ?_
    rintro r w' ⟨rfl, hu⟩
    exact ⟨hu, World.ownsRow_nil _ _ _ _⟩
theorem PR.late (R : PR w0 w hb mb E L) (tick : Int) : CallP Try.prog 24 #[ptrOf hb, .int .i64 tick] w (fun r w' => Upd noB w w' ∧
    w'.ownsRow w.heap.size 3 1 r (L.filter (lateP tick)).length ((L.filter (lateP tick)).map opnL)) := by
  refine CallP.mono (late_any R.h R.hO (by rw [R.elen]; have := R.len; omega) tick) ?_
  rintro r w' ⟨hu, F, hp, hs, own⟩
  have e := R.filt hp hs
  rw [← e, List.length_map, List.map_map]
  exact ⟨hu, own⟩
theorem PR.level (R : PR w0 w hb mb E L) (o : Int) : levelE E o = levelL L o := by
  unfold levelE levelL
  rw [← R.find o]
  cases findE E o <;> rfl
theorem toOf_pos (why : Int) : 0 ≤ toOf why := by unfold toOf; split <;> decide
theorem must_mem {L : List HV} {node o why : Int} {x : HV} {R : List HV} (h : mustL L node o why = x :: R) : x ∈ L ∧ toOf why < x.level := by
  unfold mustL at h
  split at h
  · have hx : x ∈ L.filter (mustP node o (toOf why)) := by rw [h]; simp
    obtain ⟨h1, h2⟩ := List.mem_filter.1 hx
    refine ⟨h1, ?_⟩
    unfold mustP at h2
    simp at h2
    exact h2.2.2
  · cases h
theorem must_step {L : List HV} (hs : Srt L) {node o why : Int} {x : HV} {R : List HV} (h : mustL L node o why = x :: R) : mustL (updL L x.opn ⟨x.node, x.opn, 0, false, 0, 0⟩) node o why = R := by
  unfold mustL at h ⊢
  split at h
  · rename_i hw
    rw [if_pos hw]
    refine filter_step hs h _ ?_
    have := toOf_pos why
    unfold mustP
    have h3 : ¬ toOf why < 0 := by omega
    simp [h3]
  · cases h
theorem brk_len (to : Int) (x : HV) : (brkL to x).length = 2 := (rfl)
theorem brk_read {vm : Value} {M : List HV} {to : Int} (hm : RowAt w 2 vm M.length (M.flatMap (brkL to))) (i : Nat) (hi : i < M.length) :
    ∃ b o c te f, (∀ kk W, (Instr.indexAt 34 vm (.int kk i)).run Try.prog W = .ok (.pointer (some ⟨b, o, none⟩)) W) ∧ vm.ownBlock = some b ∧ w.heap[b]? = some (.cells c te f) ∧ c[o]? = some (.int .i64 M[i].opn) ∧ c[o + 1]? = some (.int .u8 to) := by
  obtain ⟨b, off, c, te, f, h1, hidx, hb, hsz, hc⟩ := hm.index (P := Try.prog) (t := 34) (e := 40) Try.underlying34 Try.sizeOf40 i hi
  have hrow : ∀ j, j < 2 → (M.flatMap (brkL to))[i * 2 + j]? = (brkL to M[i])[j]? := by
    intro j hj
    have h := congrArg (fun l => l[j]?) (flat_at (brkL to) 2 (brk_len to) M i hi)
    simpa only [List.getElem?_take, if_pos hj, List.getElem?_drop] using h
  refine ⟨b, off + i * 2, c, te, f, ?_, h1, hb, ?_, ?_⟩
  · obtain ⟨p, cap, rfl⟩ := hm.len
    intro kk W
    have h2 := hidx kk
    simp [Instr.indexAt, asIntOf, run_underlying Try.underlying34, Try.sizeOf40, hi] at h2 ⊢
    cases p with
    | none => cases h1
    | some p => simpa using h2
  · have := hc 0 (by decide)
    rw [hrow 0 (by decide)] at this
    exact this
  · have := hc 1 (by decide)
    rw [hrow 1 (by decide)] at this
    exact this
def GoesI (w0 : World) (base : Nat) (M : List HV) (vm : Value) (node o why tick : Int) (m : Nat) (ρ : Env) (w' : World) : Prop :=
  ∃ (k hb mb : Nat) (E : List (HV × Nat)) (L : List HV), m = M.length - k ∧ k ≤ M.length ∧ ρ 1 = .int .i64 node ∧ ρ 2 = .int .i64 o ∧ ρ 3 = .int .u8 why ∧ ρ 4 = .int .i64 tick ∧ ρ 11 = ptrOf hb ∧ ρ 14 = vm ∧ ρ 15 = .int .i64 k ∧
    PR w0 w' hb mb E L ∧ InvL L ∧ mustL L node o why = M.drop k ∧ RowAt w' 2 vm M.length (M.flatMap (brkL (toOf why))) ∧ ∀ b, fpH hb mb E b → b < base
set_option maxHeartbeats 4000000 in
theorem holdGoes_any {vl : Value} {l : List ActV} (hl : RowAt w0 7 vl l.length (l.flatMap ActV.row)) (hok : ∀ a, a ∈ l → a.ok) (hlen : l.length ≤ 9223372036854775807) (node o why tick : Int) :
    CallP Try.prog 5 #[vl, .int .i64 node, .int .i64 o, .int .u8 why, .int .i64 tick] w0 (fun r w' => r = .bool true ∧ Upd noB w0 w') := by
  have I := inv_play hok
  refine call_den (args := [_, _, _, _, _]) Try.func5 rfl rfl (by simp [Try.ntmps5]) ?_
  simp [go_sem]
  refine CallP.mono (played_any hl hok hlen) ?_
  rintro r w1 ⟨hb, mb, rb, E, v, rfl, R⟩
  simp [go_sem]
  have Q := R.toPR (by omega)
  generalize playL l = L0 at *
  refine CallP.mono (Q.must node o why) ?_
  rintro vm w2 ⟨u2, own2⟩
  have Q2 := Q.keep0 u2
  have hfp0 : ∀ b, fpH hb mb E b → b < w1.heap.size := fun b hb => fpH_old Q.h hb
  have hML : (mustL L0 node o why).length ≤ 1000 := by
    unfold mustL
    split
    · exact Nat.le_trans (List.length_filter_le _ _) Q.len
    · simp
  obtain ⟨M, hM⟩ : ∃ M, M = mustL L0 node o why := ⟨_, rfl⟩
  rw [← hM] at own2 hML
  simp [go_sem]
  obtain ⟨pm, cm, hvm⟩ := (RowAt.of_own own2).len
  have hbase : ∀ b, vm.ownBlock = some b → w1.heap.size ≤ b := fun b hb => (own2.lt b hb).1
  refine den_loop (GoesI w0 w1.heap.size M vm node o why tick) M.length ?_ ?_
  · exact ⟨0, hb, mb, E, L0, rfl, Nat.zero_le _, by simp [go_sem], by simp [go_sem], by simp [go_sem], by simp [go_sem], by simp [go_sem], by simp [go_sem], by simp [go_sem], Q2, I, by rw [← hM]; rfl, RowAt.of_own own2, hfp0⟩
  · clear hM R Q Q2 own2 hfp0
    rintro m ρ w' ⟨k, hb, mb, E, L, rfl, hk, h1, h2, h3, h4, h11, h14, h15, R, Ik, hmust, row, hfp⟩
    by_cases hlt : k < M.length
    · rw [List.drop_eq_getElem_cons hlt] at hmust
      obtain ⟨hxL, hxl⟩ := must_mem hmust
      obtain ⟨b, oo, c, te, f, hidx, hown, hbb, c0, c1⟩ := brk_read row k hlt
      have hbn : ¬ fpH hb mb E b := fun h => by have := hfp b h; have := hbase b hown; omega
      obtain ⟨g1, g2, g3⟩ := goes_step Ik hxL (toOf_pos why) hxl (whenI tick)
      have hwr : IntKind.i64.wrap ((k : Int) + 1) = ((k + 1 : Nat) : Int) := wrap64_id (by omega) (by omega)
      have hbd : w'.drew.heap[b]? = some (.cells c te f) := hbb
      have la : (Instr.loadAt 3 (.pointer (some ⟨b, oo, none⟩))).run Try.prog w'.drew = .ok (.int .i64 M[k].opn) w'.drew := by
        simp [Instr.loadAt, Instr.sureAddr, loadVar, Try.isAgg3, run_load, cell?_at, hbd, cellIn_some, c0]
      have lb : (Instr.loadAt 5 (.pointer (some ⟨b, oo + 1, none⟩))).run Try.prog w'.drew = .ok (.int .u8 (toOf why)) w'.drew := by
        simp [Instr.loadAt, Instr.sureAddr, loadVar, Try.isAgg5, run_load, cell?_at, hbd, cellIn_some, c1]
      simp [go_sem, h1, h2, h3, h4, h11, h14, h15, hvm, hlt]
      refine draw_script [.pure 0, .pure 1, .pure 2, .pure 6, .pure 7, .pure 11, .still [3, 4, 5, 8, 9, 10, 12], .one 13, .pure 14, .still [15, 16, 17], .pure 18] (by kernel_rfl) (by kernel_rfl) (by kernel_rfl) ?_
      have Rd := R.keep0 ((Upd.refl noB w').drew)
      rw [hvm] at hidx
      simp [go_sem, h1, h2, h3, h4, h11, h14, h15, hvm, hidx, Q_load_fix (W := fun _ : Unit => w'.drew) (fun _ => la), Q_load_fix (W := fun _ : Unit => w'.drew) (fun _ => lb)]
      refine Q_call _ _ _ (f := 16) (first := #[]) (cap := #[]) (by simp [go_sem]) (by intro args w; exact Try.call16 args w) (.int .i64 (whenI tick)) (fun i => ?_) ?_
      · simp [go_sem, h4]
        refine CallP.mono (when_any tick _) ?_
        rintro r w3 ⟨rfl, rfl⟩
        exact ⟨rfl, rfl⟩
      simp [go_sem, h1, h2, h3, h4, h11, h14, h15]
      refine CallP.mono (Rd.brk M[k].opn (toOf why) (whenI tick)) ?_
      rintro r w3 ⟨rfl, E3, R3, u3, s3⟩
      rw [g1]
      have hb3 := u3.get hbd hbn
      have row3 := (row.keep ((Upd.refl noB w').drew) (by simp [noB])).keep u3 (fun b' hb' hf => by have := hfp b' hf; have := hbase b' hb'; omega)
      simp [go_sem, h1, h2, h3, h4, h11, h14, h15, hvm, hidx, hb3, c0]
      refine CallP.mono (R3.ack M[k].opn 0) ?_
      rintro r w4 ⟨rfl, E4, R4, u4, s4⟩
      rw [g2]
      have row4 := row3.keep u4 (fun b' hb' hf => by have := hfp b' (s3 b' hf); have := hbase b' hb'; omega)
      simp [go_sem, h1, h2, h3, h4, h11, h14, h15, hvm]
      rw [g3] at R4
      exact ⟨M.length - (k + 1), by omega, k + 1, hb, mb, E4, _, rfl, by omega, by simp [go_sem, h1], by simp [go_sem, h2], by simp [go_sem, h3], by simp [go_sem, h4], by simp [go_sem, h11], by simp [go_sem, h14, hvm], by simp [go_sem, hwr], R4, goes_inv Ik hxL, must_step Ik.srt hmust, hvm ▸ row4, fun b' hb' => hfp b' (s3 b' (s4 b' hb'))⟩
    · have hk' : k = M.length := by omega
      subst hk'
      have hnil : mustL L node o why = [] := by rw [hmust]; simp
      simp [go_sem, h1, h2, h3, h4, h11, h14, h15, hvm]
      refine CallP.mono (R.must node o why) ?_
      rintro v3 w3 ⟨u3, own3⟩
      rw [hnil] at own3
      obtain ⟨p3, c3, rfl⟩ := (RowAt.of_own own3).len
      simp [go_sem, h1, h2, h3, h4, h11, h14, h15]
      refine CallP.mono (works_any w3) ?_
      rintro r w4 ⟨rfl, u4⟩
      simp [go_sem]
      exact (R.u.trans u3).trans u4
end Go.Proofs.Ytnelmicecaggoaa
