import Derived.Test.YtnelmicecaggoaaHoldS
namespace Go.Proofs.Ytnelmicecaggoaa
open Go.Eng
set_option linter.unusedSimpArgs false
set_option linter.unusedVariables false
set_option maxRecDepth 100000
def updL (L : List HV) (k : Int) (h : HV) : List HV := L.map fun y => if y.opn == k then h else y
theorem set_upd {L : List HV} (hs : Srt L) (i : Nat) (hi : i < L.length) {o : Int} (ho : L[i].opn = o) (h : HV) : L.set i h = updL L o h := by
  apply List.ext_getElem
  · simp [updL]
  · intro j h1 h2
    simp only [updL, List.getElem_map, List.getElem_set]
    have hj : j < L.length := by simpa using h1
    by_cases e : i = j
    · subst e; simp [ho]
    · rw [if_neg e, if_neg]
      intro he
      have he' : L[j].opn = o := by simpa using he
      rcases Nat.lt_or_ge i j with hl | hl
      · have := List.pairwise_iff_getElem.1 hs i j hi hj hl; omega
      · have := List.pairwise_iff_getElem.1 hs j i hj hi (by omega); omega
theorem updL_self {L : List HV} (hs : Srt L) {o : Int} {x : HV} (hx : findL L o = some x) : updL L o x = L := by
  unfold updL
  have h1 := List.mem_of_find?_eq_some hx
  have h2 := List.find?_some hx
  simp at h2
  conv => rhs; rw [← List.map_id L]
  refine List.map_congr_left fun y hy => ?_
  by_cases e : y.opn = o
  · have : y = x := hs.uniq hy h1 (e.trans h2.symm)
    subst this
    simp
  · simp [e]
theorem Srt.upd {L : List HV} (hs : Srt L) (o : Int) (h : HV) (ho : h.opn = o) : Srt (updL L o h) := by
  have hm : (updL L o h).map (·.opn) = L.map (·.opn) := by
    unfold updL
    rw [List.map_map]
    refine List.map_congr_left fun y _ => ?_
    simp only [Function.comp_apply]
    by_cases e : y.opn == o
    · rw [if_pos e, ho]; simp at e; exact e.symm
    · rw [if_neg e]
  have h1 : (L.map (·.opn)).Pairwise (· < ·) := List.pairwise_map.2 hs
  rw [← hm] at h1
  exact List.pairwise_map.1 h1
def breakL (L : List HV) (o to tick : Int) : Bool × Int × List HV :=
  match findL L o with
  | none => (false, 15, L)
  | some x => if x.level ≤ to then (false, 2, L) else if x.brk then (decide (to < x.to), 0, updL L o { x with to := min x.to to }) else (true, 0, updL L o { x with brk := true, to := to, since := tick })
theorem lt6 {j : Nat} (h : j < 6) : j = 0 ∨ j = 1 ∨ j = 2 ∨ j = 3 ∨ j = 4 ∨ j = 5 := by omega
theorem refBreak_any {w : World} {base rb : Nat} {v : Value} {L : List HV} (R : RefRep w base rb v L) (hs : Srt L) (hlen : L.length ≤ 1048576) (o to tick : Int) :
    CallP Try.prog 36 #[ptrOf rb, .int .i64 o, .int .u8 to, .int .i64 tick] w (fun r w' => r = .tuple #[.bool (breakL L o to tick).1, .int .i64 (breakL L o to tick).2.1] ∧ RefRep w' base rb v (breakL L o to tick).2.2 ∧ Upd (fun b => v.ownBlock = some b) w w') := by
  have rd := R.rd
  unfold breakL
  refine call_den (args := [_, _, _, _]) Try.func36 rfl rfl (by simp [Try.ntmps36]) ?_
  simp [go_sem]
  refine CallP.mono (refAt_any R hlen o) ?_
  rintro r w' ⟨⟨i, hi, ho, rfl⟩ | ⟨hno, rfl⟩, rfl⟩
  · obtain ⟨b, oo, c, hbl, hx, hb, hsz, ⟨c0, c1, c2, c3, c4, c5⟩, hup⟩ := R.at i hi
    have hfind := findL_at hs i hi ho
    have hset := set_upd hs i hi ho
    have hself := updL_self hs hfind
    have hi0 : ¬ ((i : Int) < 0) := by omega
    generalize L[i] = x at *
    rw [hfind]
    have hz3 : oo + 3 < c.size := by omega
    have hz4 : oo + 4 < c.size := by omega
    have hz5 : oo + 5 < c.size := by omega
    by_cases hlv : x.level ≤ to
    · simp [go_sem, rd, hi0, hx, hb, c2, hlv]
      exact ⟨R, Upd.refl _ _⟩
    · cases hbrk : x.brk with
      | false =>
        rw [hbrk] at c3
        have e3 : c[oo + 3] = .bool false := by simpa [hz3] using c3
        simp [go_sem, rd, hi0, hx, hb, c2, c3, e3, hlv, hz3, hz4, hz5, hbrk]
        rw [← hset]
        refine ⟨hup _ (((c.setIfInBounds (oo + 3) (.bool true)).setIfInBounds (oo + 4) (.int .u8 to)).setIfInBounds (oo + 5) (.int .i64 tick)) _ (by simp) ?_ ?_ (by simp [go_sem, hb]) (by repeat (first | exact Upd.refl _ _ | refine Upd.alloc ?_ _ | refine Upd.drew ?_ | refine Upd.drewN ?_ _ | refine Upd.setB ?_ _ _ (fun _ => rfl))), (by repeat (first | exact Upd.refl _ _ | refine Upd.alloc ?_ _ | refine Upd.drew ?_ | refine Upd.drewN ?_ _ | refine Upd.setB ?_ _ _ (fun _ => hbl)))⟩
        · intro j hj
          rw [Array.getElem?_setIfInBounds_ne (by omega), Array.getElem?_setIfInBounds_ne (by omega), Array.getElem?_setIfInBounds_ne (by omega)]
        · intro j hj
          rcases lt6 hj with rfl | rfl | rfl | rfl | rfl | rfl <;> simp [Array.getElem?_setIfInBounds, c0, c1, c2, HV.cells, hz3, hz4, hz5]
      | true =>
        rw [hbrk] at c3
        have e3 : c[oo + 3] = .bool true := by simpa [hz3] using c3
        have e4 : c[oo + 4] = .int .u8 x.to := by simpa [hz4] using c4
        by_cases hto : to < x.to
        · have hmin : min x.to to = to := by omega
          simp [go_sem, rd, hi0, hx, hb, c2, c3, c4, e4, hlv, hto, hz4, hmin, hbrk]
          rw [← hset]
          refine ⟨hup _ (c.setIfInBounds (oo + 4) (.int .u8 to)) _ (by simp) ?_ ?_ (by simp [go_sem, hb]) (by repeat (first | exact Upd.refl _ _ | refine Upd.alloc ?_ _ | refine Upd.drew ?_ | refine Upd.drewN ?_ _ | refine Upd.setB ?_ _ _ (fun _ => rfl))), (by repeat (first | exact Upd.refl _ _ | refine Upd.alloc ?_ _ | refine Upd.drew ?_ | refine Upd.drewN ?_ _ | refine Upd.setB ?_ _ _ (fun _ => hbl)))⟩
          · intro j hj
            rw [Array.getElem?_setIfInBounds_ne (by omega)]
          · intro j hj
            rcases lt6 hj with rfl | rfl | rfl | rfl | rfl | rfl <;> simp [Array.getElem?_setIfInBounds, c0, c1, c2, c3, c5, HV.cells, hz4, hbrk]
        · have hmin : min x.to to = x.to := by omega
          have hxx : ({ x with brk := true, to := min x.to to } : HV) = x := by rw [hmin, ← hbrk]
          simp [go_sem, rd, hi0, hx, hb, c2, c3, c4, hlv, hto, hbrk]
          rw [hxx, hself]
          exact ⟨R, Upd.refl _ _⟩
  · simp [go_sem, findL_none hno]
    exact ⟨R, Upd.refl _ _⟩
def ackL (L : List HV) (o lv : Int) : Int × List HV :=
  match findL L o with
  | none => (15, L)
  | some x => if x.brk then (if x.to < lv then (2, L) else (0, updL L o ⟨x.node, o, lv, false, 0, 0⟩)) else (17, L)
theorem refAck_any {w : World} {base rb : Nat} {v : Value} {L : List HV} (R : RefRep w base rb v L) (hs : Srt L) (hlen : L.length ≤ 1048576) (o lv : Int) :
    CallP Try.prog 37 #[ptrOf rb, .int .i64 o, .int .u8 lv] w (fun r w' => r = .int .i64 (ackL L o lv).1 ∧ RefRep w' base rb v (ackL L o lv).2 ∧ Upd (fun b => v.ownBlock = some b) w w') := by
  have rd := R.rd
  unfold ackL
  refine call_den (args := [_, _, _]) Try.func37 rfl rfl (by simp [Try.ntmps37]) ?_
  simp [go_sem]
  refine CallP.mono (refAt_any R hlen o) ?_
  rintro r w' ⟨⟨i, hi, ho, rfl⟩ | ⟨hno, rfl⟩, rfl⟩
  · obtain ⟨b, oo, c, hbl, hx, hb, hsz, ⟨c0, c1, c2, c3, c4, c5⟩, hup⟩ := R.at i hi
    have hfind := findL_at hs i hi ho
    have hset := set_upd hs i hi ho
    have hi0 : ¬ ((i : Int) < 0) := by omega
    have hxo : L[i].opn = o := ho
    generalize L[i] = x at *
    rw [hfind]
    have hz2 : oo + 2 < c.size := by omega
    have hz3 : oo + 3 < c.size := by omega
    have hz4 : oo + 4 < c.size := by omega
    have hz5 : oo + 5 < c.size := by omega
    cases hbrk : x.brk with
    | false =>
      rw [hbrk] at c3
      simp [go_sem, rd, hi0, hx, hb, c3, hbrk]
      exact ⟨R, Upd.refl _ _⟩
    | true =>
      rw [hbrk] at c3
      have e3 : c[oo + 3] = .bool true := by simpa [hz3] using c3
      have e4 : c[oo + 4] = .int .u8 x.to := by simpa [hz4] using c4
      by_cases hto : x.to < lv
      · simp [go_sem, rd, hi0, hx, hb, c3, c4, hto, hbrk]
        exact ⟨R, Upd.refl _ _⟩
      · simp [go_sem, rd, hi0, hx, hb, c3, c4, e3, e4, hto, hz2, hz3, hz4, hz5, hbrk]
        rw [← hset]
        refine ⟨hup _ ((((c.setIfInBounds (oo + 2) (.int .u8 lv)).setIfInBounds (oo + 3) (.bool false)).setIfInBounds (oo + 4) (.int .u8 0)).setIfInBounds (oo + 5) (.int .i64 0)) _ (by simp) ?_ ?_ (by simp [go_sem, hb]) (by repeat (first | exact Upd.refl _ _ | refine Upd.alloc ?_ _ | refine Upd.drew ?_ | refine Upd.drewN ?_ _ | refine Upd.setB ?_ _ _ (fun _ => rfl))), (by repeat (first | exact Upd.refl _ _ | refine Upd.alloc ?_ _ | refine Upd.drew ?_ | refine Upd.drewN ?_ _ | refine Upd.setB ?_ _ _ (fun _ => hbl)))⟩
        · intro j hj
          rw [Array.getElem?_setIfInBounds_ne (by omega), Array.getElem?_setIfInBounds_ne (by omega), Array.getElem?_setIfInBounds_ne (by omega), Array.getElem?_setIfInBounds_ne (by omega)]
        · intro j hj
          rcases lt6 hj with rfl | rfl | rfl | rfl | rfl | rfl <;> simp [Array.getElem?_setIfInBounds, c0, c1, HV.cells, hz2, hz3, hz4, hz5, hxo]
  · simp [go_sem, findL_none hno]
    exact ⟨R, Upd.refl _ _⟩
end Go.Proofs.Ytnelmicecaggoaa
