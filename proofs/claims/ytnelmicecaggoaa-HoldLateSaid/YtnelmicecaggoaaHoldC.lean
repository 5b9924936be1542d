import Derived.Test.YtnelmicecaggoaaHoldB
namespace Go.Proofs.Ytnelmicecaggoaa
open Go.Eng
set_option linter.unusedSimpArgs false
set_option maxRecDepth 100000
/-! ### Drop, Ack, Break -/
def dropE (E : List (HV × Nat)) (k : Int) : List (HV × Nat) := E.filter fun x => x.1.opn != k
theorem HoldsRep.drop {w : World} {hb mb : Nat} {E : List (HV × Nat)} (R : HoldsRep w hb mb E) (k : Int) (ob : Obj) (hm : MapAt (w.setB mb ob) mb ((E.map fun x => (x.1.opn, ptrOf x.2)).filter fun x => x.1 != k)) : HoldsRep (w.setB mb ob) hb mb (dropE E k) := by
  refine ⟨?_, ?_, ?_, ?_⟩
  · rw [heap_setB, if_neg R.hb_mb]; exact R.hd
  · have : (dropE E k).map (fun x => (x.1.opn, ptrOf x.2)) = (E.map fun x => (x.1.opn, ptrOf x.2)).filter fun x => x.1 != k := by
      unfold dropE; rw [List.filter_map]; rfl
    rw [this]; exact hm
  · intro x hx
    have hxE := (List.mem_filter.1 hx).1
    rw [heap_setB, if_neg (R.ne_mb hxE)]; exact R.cells x hxE
  · exact R.nd.sublist (List.filter_sublist.map _)
theorem drop_any {w : World} {hb mb : Nat} {E : List (HV × Nat)} (R : HoldsRep w hb mb E) (o : Int) :
    CallP Try.prog 29 #[ptrOf hb, .int .i64 o] w (fun v w' => v = .bool (findE E o).isSome ∧ HoldsRep w' hb mb (dropE E o) ∧ Upd (fpH hb mb E) w w') := by
  have hl := lookupMap_run (P := Try.prog) (t := 60) R.mp Try.underlying60 Try.underlying3 (.pointer none) (Try.zeroValue69 w) o
  rw [lookupE] at hl
  obtain ⟨ob, hdel, hm⟩ := deleteMap_run (P := Try.prog) (t := 60) 0 3 R.mp Try.underlying60 Try.underlying3 o
  have hd := R.hd
  refine call_den (args := [_, _]) Try.func29 rfl rfl (by simp [Try.ntmps29]) ?_
  simp [go_sem]
  refine off_any hb mb w R.hd _ ?_
  simp [go_sem, hd]
  rw [K_lookup_ok _ _ _ _ _ hl]
  cases hx : findE E o with
  | none =>
    simp [go_sem]
    have : dropE E o = E := by
      unfold dropE
      rw [List.filter_eq_self]
      intro a ha
      simp only [bne_iff_ne, ne_eq]
      intro e
      have := List.find?_eq_none.1 hx a ha
      simp [e] at this
    rw [this]
    exact ⟨R, Upd.refl _ _⟩
  | some x =>
    simp [go_sem, hd, K_delete_ok _ _ _ _ hdel]
    exact ⟨R.drop o ob hm, (Upd.refl _ _).setB _ _ (fun _ => Or.inr (Or.inl rfl))⟩
def ackE (E : List (HV × Nat)) (o lv : Int) : Int × List (HV × Nat) :=
  match findE E o with
  | none => (15, E)
  | some x => if x.1.brk then (if x.1.to < lv then (2, E) else (0, updE E o ⟨x.1.node, o, lv, false, 0, 0⟩)) else (17, E)
theorem ack_any {w : World} {hb mb : Nat} {E : List (HV × Nat)} (R : HoldsRep w hb mb E) (o lv : Int) :
    CallP Try.prog 17 #[ptrOf hb, .int .i64 o, .int .u8 lv] w (fun v w' => v = .int .i64 (ackE E o lv).1 ∧ HoldsRep w' hb mb (ackE E o lv).2 ∧ Upd (fpH hb mb E) w w') := by
  have hl := lookupMap_run (P := Try.prog) (t := 60) R.mp Try.underlying60 Try.underlying3 (.pointer none) (Try.zeroValue69 w) o
  rw [lookupE] at hl
  have hd := R.hd
  unfold ackE
  refine call_den (args := [_, _, _]) Try.func17 rfl rfl (by simp [Try.ntmps17]) ?_
  simp [go_sem]
  refine off_any hb mb w R.hd _ ?_
  simp [go_sem, hd]
  rw [K_lookup_ok _ _ _ _ _ hl]
  cases hx : findE E o with
  | none =>
    simp [go_sem]
    exact ⟨R, Upd.refl _ _⟩
  | some x =>
    have hxE := findE_some hx
    have hc := R.cells x hxE.1
    have hc2 := hc
    unfold HV.cells at hc
    cases hbrk : x.1.brk with
    | false =>
      simp [go_sem, hc, hbrk]
      exact ⟨R, Upd.refl _ _⟩
    | true =>
      by_cases hto : x.1.to < lv
      · simp [go_sem, hc, hbrk, hto]
        exact ⟨R, Upd.refl _ _⟩
      · simp [go_sem, hc, hbrk, hto]
        refine ⟨R.upd hx ⟨x.1.node, o, lv, false, 0, 0⟩ rfl ?_ ?_, ?_⟩
        · rw [heap_setB, if_pos rfl, hc]; rfl
        · exact (Upd.refl _ _).setB _ _ (fun _ => rfl)
        · exact (Upd.refl _ _).setB _ _ (fun _ => Or.inr (Or.inr ⟨x, hxE.1, rfl⟩))
def breakE (E : List (HV × Nat)) (o to tick : Int) : Bool × Int × List (HV × Nat) :=
  match findE E o with
  | none => (false, 15, E)
  | some x => if x.1.level ≤ to then (false, 2, E) else if x.1.brk then (decide (to < x.1.to), 0, updE E o { x.1 with to := min x.1.to to }) else (true, 0, updE E o { x.1 with brk := true, to := to, since := tick })
theorem break_any {w : World} {hb mb : Nat} {E : List (HV × Nat)} (R : HoldsRep w hb mb E) (o to tick : Int) :
    CallP Try.prog 15 #[ptrOf hb, .int .i64 o, .int .u8 to, .int .i64 tick] w (fun v w' => v = .tuple #[.bool (breakE E o to tick).1, .int .i64 (breakE E o to tick).2.1] ∧ HoldsRep w' hb mb (breakE E o to tick).2.2 ∧ Upd (fpH hb mb E) w w') := by
  have hl := lookupMap_run (P := Try.prog) (t := 60) R.mp Try.underlying60 Try.underlying3 (.pointer none) (Try.zeroValue69 w) o
  rw [lookupE] at hl
  have hd := R.hd
  unfold breakE
  refine call_den (args := [_, _, _, _]) Try.func15 rfl rfl (by simp [Try.ntmps15]) ?_
  simp [go_sem]
  refine off_any hb mb w R.hd _ ?_
  simp [go_sem, hd]
  rw [K_lookup_ok _ _ _ _ _ hl]
  cases hx : findE E o with
  | none =>
    simp [go_sem]
    exact ⟨R, Upd.refl _ _⟩
  | some x =>
    have hxE := findE_some hx
    have hc := R.cells x hxE.1
    have hc2 := hc
    unfold HV.cells at hc
    by_cases hlv : x.1.level ≤ to
    · simp [go_sem, hc, hlv]
      exact ⟨R, Upd.refl _ _⟩
    · cases hbrk : x.1.brk with
      | false =>
        simp [go_sem, hc, hbrk, hlv]
        refine ⟨R.upd hx _ hxE.2 ?_ ?_, ?_⟩
        · simp [go_sem, hc]; rfl
        · exact (by repeat (first | exact Upd.refl _ _ | refine Upd.alloc ?_ _ | refine Upd.drew ?_ | refine Upd.drewN ?_ _ | refine Upd.setB ?_ _ _ (fun _ => rfl)))
        · exact (by repeat (first | exact Upd.refl _ _ | refine Upd.alloc ?_ _ | refine Upd.drew ?_ | refine Upd.drewN ?_ _ | refine Upd.setB ?_ _ _ (fun _ => Or.inr (Or.inr ⟨x, hxE.1, rfl⟩))))
      | true =>
        simp [go_sem, hc, hbrk, hlv]
        refine ⟨R.upd hx _ hxE.2 ?_ ?_, ?_⟩
        · simp [go_sem, hc]; rfl
        · exact (by repeat (first | exact Upd.refl _ _ | refine Upd.alloc ?_ _ | refine Upd.drew ?_ | refine Upd.drewN ?_ _ | refine Upd.setB ?_ _ _ (fun _ => rfl)))
        · exact (by repeat (first | exact Upd.refl _ _ | refine Upd.alloc ?_ _ | refine Upd.drew ?_ | refine Upd.drewN ?_ _ | refine Upd.setB ?_ _ _ (fun _ => Or.inr (Or.inr ⟨x, hxE.1, rfl⟩))))
/-! ### Give -/
def greatE (E : List (HV × Nat)) (node : Int) : Int := E.foldl (fun a x => if x.1.node = node then max a x.1.level else a) 0
def giveLevel (E : List (HV × Nat)) (node want others : Int) (locked : Bool) : Int :=
  if locked then 0 else if others = 0 ∧ greatE E node = 0 then want else if greatE E node < 2 then min want 1 else 0
theorem fold_max_perm {E F : List (HV × Nat)} (node : Int) (h : E.Perm F) (a : Int) : E.foldl (fun a x => if x.1.node = node then max a x.1.level else a) a = F.foldl (fun a x => if x.1.node = node then max a x.1.level else a) a := by
  refine h.foldl_eq' ?_ a
  intro x _ y _ z
  by_cases h1 : x.1.node = node <;> by_cases h2 : y.1.node = node <;> simp only [h1, h2, if_true, if_false] <;> omega
def GiveI (w : World) (hb mb : Nat) (E : List (HV × Nat)) (node o want others : Int) (locked : Bool) (m : Nat) (ρ : Env) (w' : World) : Prop :=
  ∃ (vis rem : List (HV × Nat)) (cur : Option (Int × Value)), m = rem.length ∧ ρ 14 = .int .u8 (greatE vis node) ∧ ρ 48 = .pointer (some ⟨w.heap.size, 0, none⟩) ∧
    (ρ 0 = .pointer (some ⟨hb, 0, none⟩) ∧ ρ 1 = .int .i64 node ∧ ρ 2 = .int .i64 o ∧ ρ 3 = .int .u8 want ∧ ρ 4 = .int .i64 others ∧ ρ 5 = .bool locked) ∧
    IterAt w' w.heap.size mb (E.map fun x => (x.1.opn, ptrOf x.2)) (rem.map fun x => (x.1.opn, ptrOf x.2)) cur ∧ Upd noB w w' ∧ (vis ++ rem).Perm E
theorem greatE_snoc (l : List (HV × Nat)) (x : HV × Nat) (node : Int) : greatE (l ++ [x]) node = if x.1.node = node then max (greatE l node) x.1.level else greatE l node := by
  unfold greatE; rw [List.foldl_append]; rfl
/-- behind an iterator's step nothing older has turned -/
theorem step_upd {w w' w1 : World} {S : Nat → Prop} (hu : Upd S w w') (hw : w1 = w' ∨ w1 = w'.drew) (it : Nat) (o : Obj) (hit : w.heap.size ≤ it) : Upd S w (w1.setB it o) := by
  rcases hw with rfl | rfl
  · exact hu.setB _ _ (fun h => by omega)
  · exact hu.drew.setB _ _ (fun h => by omega)
theorem give_any {w : World} {hb mb : Nat} {E : List (HV × Nat)} (R : HoldsRep w hb mb E) (node o want others : Int) (locked : Bool) (hn : 1 ≤ node) (ho : 1 ≤ o) (hw : want ≤ 3) (hoth : 0 ≤ others) (hnone : findE E o = none) :
    CallP Try.prog 28 #[ptrOf hb, .int .i64 node, .int .i64 o, .int .u8 want, .int .i64 others, .bool locked] w (fun v w' => v = .tuple #[.int .u8 (giveLevel E node want others locked), .int .i64 0] ∧
      ∃ nb, HoldsRep w' hb mb (E ++ [(⟨node, o, giveLevel E node want others locked, false, 0, 0⟩, nb)]) ∧ w.heap.size ≤ nb ∧ Upd (fpH hb mb E) w w') := by
  have hl := lookupMap_run (P := Try.prog) (t := 60) R.mp Try.underlying60 Try.underlying3 (.pointer none) (Try.zeroValue69 w) o
  rw [lookupE, hnone] at hl
  obtain ⟨ob, hr, hit0⟩ := rangeMap_run (P := Try.prog) (t := 60) R.mp Try.underlying60
  have hd := R.hd
  have h1 : ¬ node < 1 := by omega
  have h2 : ¬ o < 1 := by omega
  have h3 : ¬ others < 0 := by omega
  have h4 : ¬ 3 < want := by omega
  refine call_den (args := [_, _, _, _, _, _]) Try.func28 rfl rfl (by simp [Try.ntmps28]) ?_
  simp [go_sem]
  refine off_any hb mb w R.hd _ ?_
  simp [go_sem, hd, h1, h2, h3, h4, K_lookup_ok _ _ _ _ _ hl, K_range_ok _ _ _ hr]
  refine den_loop (GiveI w hb mb E node o want others locked) E.length ?_ ?_
  · refine ⟨[], E, none, rfl, ?_, ?_, ⟨?_, ?_, ?_, ?_, ?_, ?_⟩, hit0, (Upd.refl _ _).alloc _, List.Perm.refl _⟩ <;> simp [go_sem, greatE]
  · rintro m ρ w' ⟨vis, rem, cur, rfl, h14, h48, ⟨p0, p1, p2, p3, p4, p5⟩, hit, hu, hperm⟩
    rcases nextMap_run (P := Try.prog) 0 hit with ⟨hrem, hrun⟩ | ⟨i, hi', w1, o1, hw1, hrun, hit1⟩
    · have hrem' : rem = [] := by simpa using hrem
      subst hrem'
      rw [List.append_nil] at hperm
      have hg : greatE vis node = greatE E node := fold_max_perm node hperm 0
      rw [hg] at h14
      have R' := R.keep0 hu
      have hd' := R'.hd
      have hfin : ∀ lv, lv = giveLevel E node want others locked → ∀ w5, w5.heap[w'.heap.size]? = some (.cells #[.int .i64 node, .int .i64 o, .int .u8 lv, .bool false, .int .u8 0, .int .i64 0] 32 (0, 0)) → Upd noB w' w5 →
          ∃ ob2, (Instr.mapUpdate 60 (.map (some mb)) (.int .i64 o) (.pointer (some ⟨w'.heap.size, 0, none⟩))).run Try.prog w5 = .ok () (w5.setB mb ob2) ∧
            (∃ nb, HoldsRep (w5.setB mb ob2) hb mb (E ++ [(⟨node, o, giveLevel E node want others locked, false, 0, 0⟩, nb)]) ∧ w.heap.size ≤ nb ∧ Upd (fpH hb mb E) w (w5.setB mb ob2)) ∧ (w5.setB mb ob2).heap[w'.heap.size]? = some (.cells #[.int .i64 node, .int .i64 o, .int .u8 lv, .bool false, .int .u8 0, .int .i64 0] 32 (0, 0)) := by
        intro lv hlv w5 hc hu5
        have R5 := R'.keep0 hu5
        have hln : lookupL (E.map fun x => (x.1.opn, ptrOf x.2)) o = none := by rw [lookupE, hnone]; rfl
        obtain ⟨ob2, hst, hm⟩ := storeMap_run (P := Try.prog) (t := 60) R5.mp Try.underlying60 Try.underlying3 o (.pointer (some ⟨w'.heap.size, 0, none⟩)) hln
        have hne : w'.heap.size ≠ mb := by have := R'.mp.lt; omega
        have hcell : (w5.setB mb ob2).heap[w'.heap.size]? = some (.cells #[.int .i64 node, .int .i64 o, .int .u8 lv, .bool false, .int .u8 0, .int .i64 0] 32 (0, 0)) := by rw [heap_setB, if_neg hne]; exact hc
        refine ⟨ob2, hst, ⟨w'.heap.size, ⟨?_, ?_, ?_, ?_⟩, hu.size, ?_⟩, hcell⟩
        · rw [heap_setB, if_neg R.hb_mb]; exact R5.hd
        · simpa using hm
        · intro x hx
          rcases List.mem_append.1 hx with hx | hx
          · rw [heap_setB, if_neg (R.ne_mb hx)]; exact R5.cells x hx
          · simp only [List.mem_singleton] at hx
            subst hx
            rw [← hlv]
            exact hcell
        · rw [List.map_append, List.nodup_append]
          refine ⟨R.nd, by simp, ?_⟩
          intro a ha b hb' e
          obtain ⟨x, hx, rfl⟩ := List.mem_map.1 ha
          simp only [List.map_cons, List.map_nil, List.mem_singleton] at hb'
          have := (Array.getElem?_eq_some_iff.1 (R'.cells x hx)).1
          omega
        · exact ((hu.trans hu5).mono (fun b _ h => h.elim)).setB _ _ (fun _ => Or.inr (Or.inl rfl))
      have hsz := R'.mp.lt
      have hne : hb ≠ w'.heap.size := (old_ne hd').2.1
      have hne2 : w'.heap.size ≠ mb := by omega
      have hstore : ∀ lv, lv = giveLevel E node want others locked →
          ∃ ob2, (Instr.mapUpdate 60 (.map (some mb)) (.int .i64 o) (.pointer (some ⟨w'.heap.size, 0, none⟩))).run Try.prog
              ((w'.alloc (.cells #[.int .i64 node, .int .i64 o, .int .u8 0, .bool false, .int .u8 0, .int .i64 0] 32)).setB w'.heap.size (.cells #[.int .i64 node, .int .i64 o, .int .u8 lv, .bool false, .int .u8 0, .int .i64 0] 32 (0, 0))) = .ok ()
              (((w'.alloc (.cells #[.int .i64 node, .int .i64 o, .int .u8 0, .bool false, .int .u8 0, .int .i64 0] 32)).setB w'.heap.size (.cells #[.int .i64 node, .int .i64 o, .int .u8 lv, .bool false, .int .u8 0, .int .i64 0] 32 (0, 0))).setB mb ob2) ∧
            ∃ nb, HoldsRep (((w'.alloc (.cells #[.int .i64 node, .int .i64 o, .int .u8 0, .bool false, .int .u8 0, .int .i64 0] 32)).setB w'.heap.size (.cells #[.int .i64 node, .int .i64 o, .int .u8 lv, .bool false, .int .u8 0, .int .i64 0] 32 (0, 0))).setB mb ob2) hb mb (E ++ [(⟨node, o, giveLevel E node want others locked, false, 0, 0⟩, nb)]) ∧ w.heap.size ≤ nb ∧
              Upd (fpH hb mb E) w (((w'.alloc (.cells #[.int .i64 node, .int .i64 o, .int .u8 0, .bool false, .int .u8 0, .int .i64 0] 32)).setB w'.heap.size (.cells #[.int .i64 node, .int .i64 o, .int .u8 lv, .bool false, .int .u8 0, .int .i64 0] 32 (0, 0))).setB mb ob2) := by
        intro lv hlv
        obtain ⟨ob2, a1, a2, _⟩ := hfin lv hlv ((w'.alloc (.cells #[.int .i64 node, .int .i64 o, .int .u8 0, .bool false, .int .u8 0, .int .i64 0] 32)).setB w'.heap.size (.cells #[.int .i64 node, .int .i64 o, .int .u8 lv, .bool false, .int .u8 0, .int .i64 0] 32 (0, 0))) (by rw [heap_setB, if_pos rfl, heap_alloc, if_pos rfl]; rfl) (((Upd.refl _ _).alloc _).setB _ _ (fun h => by omega))
        exact ⟨ob2, a1, a2⟩
      cases hlk : locked with
      | true =>
        rw [hlk] at p5 hfin
        obtain ⟨ob2, hst, hpost, hcell⟩ := hfin 0 (by simp [giveLevel]) (w'.alloc (.cells #[.int .i64 node, .int .i64 o, .int .u8 0, .bool false, .int .u8 0, .int .i64 0] 32)) (by rw [heap_alloc, if_pos rfl]) ((Upd.refl _ _).alloc _)
        simp [go_sem, h14, h48, p0, p1, p2, p3, p4, p5, K_next_ok _ _ _ _ hrun, hd', K_mapUpdate_ok _ _ _ _ hst, hne, hne2]
        exact ⟨by simp [giveLevel], hpost⟩
      | false =>
        rw [hlk] at p5 hstore
        by_cases hc1 : others = 0 ∧ greatE E node = 0
        · have hlv : want = giveLevel E node want others false := by unfold giveLevel; rw [if_neg (by simp), if_pos hc1]
          obtain ⟨ob2, hst, hpost⟩ := hstore want hlv
          rw [hc1.1] at p4
          rw [hc1.2] at h14
          simp [go_sem, h14, h48, p0, p1, p2, p3, p4, p5, K_next_ok _ _ _ _ hrun, hd', K_mapUpdate_ok _ _ _ _ hst, hne, hne2]
          exact ⟨hlv, hpost⟩
        · by_cases hc2 : greatE E node < 2
          · have hlv : min want 1 = giveLevel E node want others false := by unfold giveLevel; rw [if_neg (by simp), if_neg hc1, if_pos hc2]
            obtain ⟨ob2, hst, hpost⟩ := hstore (min want 1) hlv
            by_cases hz : others = 0
            · have hg0 : ¬ greatE E node = 0 := fun h => hc1 ⟨hz, h⟩
              rw [hz] at p4
              simp [go_sem, h14, h48, p0, p1, p2, p3, p4, p5, K_next_ok _ _ _ _ hrun, hd', K_mapUpdate_ok _ _ _ _ hst, hne, hne2, hg0, hc2]
              exact ⟨hlv, hpost⟩
            · simp [go_sem, h14, h48, p0, p1, p2, p3, p4, p5, K_next_ok _ _ _ _ hrun, hd', K_mapUpdate_ok _ _ _ _ hst, hne, hne2, hz, hc2]
              exact ⟨hlv, hpost⟩
          · have hlv : 0 = giveLevel E node want others false := by unfold giveLevel; rw [if_neg (by simp), if_neg hc1, if_neg hc2]
            rw [hlk] at hfin
            obtain ⟨ob2, hst, hpost, hcell⟩ := hfin 0 hlv (w'.alloc (.cells #[.int .i64 node, .int .i64 o, .int .u8 0, .bool false, .int .u8 0, .int .i64 0] 32)) (by rw [heap_alloc, if_pos rfl]) ((Upd.refl _ _).alloc _)
            by_cases hz : others = 0
            · have hg0 : ¬ greatE E node = 0 := fun h => hc1 ⟨hz, h⟩
              rw [hz] at p4
              simp [go_sem, h14, h48, p0, p1, p2, p3, p4, p5, K_next_ok _ _ _ _ hrun, hd', K_mapUpdate_ok _ _ _ _ hst, hne, hne2, hg0, hc2]
              exact ⟨hlv, hpost⟩
            · simp [go_sem, h14, h48, p0, p1, p2, p3, p4, p5, K_next_ok _ _ _ _ hrun, hd', K_mapUpdate_ok _ _ _ _ hst, hne, hne2, hz, hc2]
              exact ⟨hlv, hpost⟩
    · have hi2 : i < rem.length := by simpa using hi'
      simp only [List.getElem_map] at hrun hit1
      rw [← map_eraseIdx] at hit1
      have hent := entryMap_run (P := Try.prog) hit1
      have hxE : rem[i] ∈ E := hperm.mem_iff.1 (List.mem_append.2 (Or.inr (List.getElem_mem hi2)))
      have hu1 := step_upd hu hw1 w.heap.size o1 (Nat.le_refl _)
      have hpe : (vis ++ [rem[i]] ++ rem.eraseIdx i).Perm E := by
        refine List.Perm.trans ?_ hperm
        rw [List.append_assoc]
        exact List.Perm.append_left vis (perm_eraseIdx rem i hi2)
      have hlt : (rem.eraseIdx i).length < rem.length := by rw [List.length_eraseIdx_of_lt hi2]; omega
      generalize w1.setB w.heap.size o1 = w2 at hrun hit1 hent hu1
      have hgs := greatE_snoc vis rem[i] node
      generalize rem[i] = x at *
      have hc := (R.keep0 hu1).cells x hxE
      unfold HV.cells at hc
      by_cases hnode : x.1.node = node
      · rw [if_pos hnode] at hgs
        simp [go_sem, h14, h48, p1, K_next_ok _ _ _ _ hrun, K_entry_ok _ _ hent, hc, hnode]
        refine ⟨_, hlt, vis ++ [x], rem.eraseIdx i, _, rfl, ?_, ?_, ⟨?_, ?_, ?_, ?_, ?_, ?_⟩, hit1, hu1, hpe⟩ <;> simp [go_sem, p0, p1, p2, p3, p4, p5, h48, hgs]
      · rw [if_neg hnode] at hgs
        simp [go_sem, h14, h48, p1, K_next_ok _ _ _ _ hrun, K_entry_ok _ _ hent, hc, hnode]
        refine ⟨_, hlt, vis ++ [x], rem.eraseIdx i, _, rfl, ?_, ?_, ⟨?_, ?_, ?_, ?_, ?_, ?_⟩, hit1, hu1, hpe⟩ <;> simp [go_sem, p0, p1, p2, p3, p4, p5, h14, h48, hgs]
end Go.Proofs.Ytnelmicecaggoaa
