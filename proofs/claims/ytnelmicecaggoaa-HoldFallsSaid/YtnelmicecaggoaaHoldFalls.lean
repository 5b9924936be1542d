/-
  A level only falls.
-/
import Derived.Test.YtnelmicecaggoaaHoldI
namespace Go.Proofs.Ytnelmicecaggoaa
open Go.Eng
set_option linter.unusedSimpArgs false
set_option linter.unusedVariables false
set_option maxRecDepth 100000
variable {w0 w : World} {hb mb rb : Nat} {E : List (HV × Nat)} {v : Value} {L : List HV} {n : Nat}
theorem findL_of {L : List HV} (hs : Srt L) {x : HV} {o : Int} (hx : x ∈ L) (ho : x.opn = o) : findL L o = some x := by
  obtain ⟨i, hi, rfl⟩ := List.getElem_of_mem hx
  exact findL_at hs i hi ho
theorem level_le {L L' : List HV} (I : InvL L) (o : Int) (h : ∀ y, y ∈ L' → y.opn = o → ∃ z, z ∈ L ∧ z.opn = o ∧ y.level ≤ z.level) : levelL L' o ≤ levelL L o := by
  unfold levelL
  cases hf : findL L' o with
  | none =>
    cases hf2 : findL L o with
    | none => exact Int.le_refl _
    | some z => exact (I.ok z (findL_some hf2).1).1
  | some y =>
    obtain ⟨hy, ho⟩ := findL_some hf
    obtain ⟨z, hz, hzo, hle⟩ := h y hy ho
    rw [findL_of I.srt hz hzo]
    exact hle
theorem upd_le {L : List HV} {o k : Int} {x h : HV} (hx : findL L k = some x) (ho : h.opn = k) (hle : h.level ≤ x.level) : ∀ y, y ∈ updL L k h → y.opn = o → ∃ z, z ∈ L ∧ z.opn = o ∧ y.level ≤ z.level := by
  intro y hy hyo
  obtain ⟨hxL, hxo⟩ := findL_some hx
  rcases updL_mem hy with h1 | rfl
  · exact ⟨y, h1, hyo, Int.le_refl _⟩
  · exact ⟨x, hxL, by rw [hxo, ← ho]; exact hyo, hle⟩
theorem falls {L : List HV} (I : InvL L) (a : ActV) (ha : a.ok) (o : Int) (h : ¬ (a.act = 1 ∧ a.opn = o)) : levelL (actL a L) o ≤ levelL L o := by
  have same : ∀ y, y ∈ L → y.opn = o → ∃ z, z ∈ L ∧ z.opn = o ∧ y.level ≤ z.level := fun y hy ho => ⟨y, hy, ho, Int.le_refl _⟩
  refine level_le I o ?_
  unfold actL
  split
  · rename_i h1
    unfold giveL
    split
    · exact same
    · split
      · exact same
      · intro y hy hyo
        rcases List.mem_cons.1 ((insL_perm L a.opn _).mem_iff.1 hy) with rfl | h2
        · exact absurd ⟨h1, hyo⟩ h
        · exact same y h2 hyo
  · split
    · unfold breakL
      cases hf : findL L a.opn with
      | none => exact same
      | some x =>
        obtain ⟨hx, ho⟩ := findL_some hf
        simp only
        split
        · exact same
        · split
          · exact upd_le hf ho (Int.le_refl _)
          · exact upd_le hf ho (Int.le_refl _)
    · split
      · unfold ackL
        cases hf : findL L a.opn with
        | none => exact same
        | some x =>
          obtain ⟨hx, ho⟩ := findL_some hf
          simp only
          split
          · rename_i hb
            have := (I.ok x hx).2.2 hb
            split
            · exact same
            · exact upd_le hf rfl (by show a.level ≤ x.level; omega)
          · exact same
      · split
        · intro y hy hyo
          exact same y (List.mem_filter.1 hy).1 hyo
        · exact same
theorem act_read {vl : Value} {l : List ActV} (hl : RowAt w 7 vl l.length (l.flatMap ActV.row)) (i : Nat) (hi : i < l.length) :
    ∃ b o c te f, (∀ kk, (Instr.indexAt 22 vl (.int kk i)).run Try.prog w = .ok (.pointer (some ⟨b, o, none⟩)) w) ∧ w.heap[b]? = some (.cells c te f) ∧ o + 7 ≤ c.size ∧ (c.toList.drop o).take 7 = l[i].row ∧ c[o]? = some (.int .i64 l[i].act) ∧ c[o + 2]? = some (.int .i64 l[i].opn) := by
  obtain ⟨b, off, c, te, f, _, hidx, hb, hsz, hc⟩ := hl.index (P := Try.prog) (t := 22) (e := 51) Try.underlying22 Try.sizeOf51 i hi
  have hrow : ∀ j, j < 7 → (l.flatMap ActV.row)[i * 7 + j]? = l[i].row[j]? := by
    intro j hj
    have h := congrArg (fun l => l[j]?) (flat_at ActV.row 7 ActV.row_len l i hi)
    simpa only [List.getElem?_take, if_pos hj, List.getElem?_drop] using h
  have hle : i * 7 + 7 ≤ l.length * 7 := by omega
  refine ⟨b, off + i * 7, c, te, f, hidx, hb, by omega, ?_, ?_, ?_⟩
  · apply List.ext_getElem?
    intro j
    rw [List.getElem?_take]
    by_cases hj : j < 7
    · rw [if_pos hj, List.getElem?_drop, Array.getElem?_toList, hc j hj, hrow j hj]
    · rw [if_neg hj, List.getElem?_eq_none]
      rw [ActV.row_len]; omega
  · have := hc 0 (by decide)
    rw [hrow 0 (by decide)] at this
    exact this
  · have := hc 2 (by decide)
    rw [hrow 2 (by decide)] at this
    exact this
def FallsI (w0 : World) (L0 : List HV) (more : List ActV) (vm : Value) (o : Int) (m : Nat) (ρ : Env) (w' : World) : Prop :=
  ∃ (k hb mb rb : Nat) (E : List (HV × Nat)) (v : Value), m = more.length - k ∧ k ≤ more.length ∧ k ≤ 20 ∧ ρ 1 = vm ∧ ρ 2 = .int .i64 o ∧ ρ 7 = ptrOf hb ∧ ρ 8 = ptrOf rb ∧ ρ 10 = .int .i64 k ∧ Rel w0 w' hb mb E rb v ((more.take k).foldl stepL L0) (60 + k)
set_option maxHeartbeats 4000000 in
theorem holdFalls_any {vl vm : Value} {l more : List ActV} (hl : RowAt w0 7 vl l.length (l.flatMap ActV.row)) (hok : ∀ a, a ∈ l → a.ok) (hlen : l.length ≤ 9223372036854775807) (hm : RowAt w0 7 vm more.length (more.flatMap ActV.row)) (hmok : ∀ a, a ∈ more → a.ok) (o : Int) :
    CallP Try.prog 7 #[vl, vm, .int .i64 o] w0 (fun r w' => r = .bool true ∧ Upd noB w0 w') := by
  have I := inv_play hok
  obtain ⟨pm, cm, rfl⟩ := hm.len
  refine call_den (args := [_, _, _]) Try.func7 rfl rfl (by simp [Try.ntmps7]) ?_
  simp [go_sem]
  refine CallP.mono (played_any hl hok hlen) ?_
  rintro r w1 ⟨hb, mb, rb, E, v, rfl, R⟩
  simp [go_sem]
  generalize playL l = L0 at *
  refine den_loop (FallsI w0 L0 more (.slice pm more.length cm) o) more.length ?_ ?_
  · exact ⟨0, hb, mb, rb, E, v, rfl, Nat.zero_le _, by omega, by simp [go_sem], by simp [go_sem], by simp [go_sem], by simp [go_sem], by simp [go_sem], R⟩
  · clear R
    rintro m ρ w' ⟨k, hb, mb, rb, E, v, rfl, hk, hk20, h1, h2, h7, h8, h10, R⟩
    by_cases hlt : k < more.length
    · by_cases h20 : k < 20
      · have h20' : (k : Int) < 20 := by omega
        have hmem : more[k] ∈ more := List.getElem_mem hlt
        have Ik : InvL ((more.take k).foldl stepL L0) := inv_fold _ _ I (fun a ha => hmok a (List.mem_of_mem_take ha))
        have htk : (more.take (k + 1)).foldl stepL L0 = actL more[k] ((more.take k).foldl stepL L0) := by
          rw [List.take_succ_eq_append_getElem hlt, List.foldl_append]; rfl
        have hwr : IntKind.i64.wrap ((k : Int) + 1) = ((k + 1 : Nat) : Int) := wrap64_id (by omega) (by omega)
        simp [go_sem, h1, h2, h7, h8, h10, hlt, h20']
        refine CallP.mono (level_any R.h o) ?_
        rintro r w2 ⟨rfl, u2⟩
        have R2 := R.keep0 u2
        rw [level_rel R]
        obtain ⟨b, oo, c, te, f, hidx, hbb, hsz, hrow, c0, c2⟩ := act_read (hm.keep R2.u (by simp [noB])) k hlt
        simp [go_sem, h1, h2, h7, h8, h10, hlt, h20', hidx, hbb, hsz, hrow]
        have hra : more[k].row.toArray = more[k].cells := rfl
        rw [hra]
        refine CallP.mono (act_any R2 (by omega) more[k] (hmok _ hmem)) ?_
        rintro r w3 ⟨rfl, E', v', R3⟩
        simp [go_sem, h1, h2, h7, h8, h10]
        refine CallP.mono (level_any R3.h o) ?_
        rintro r w4 ⟨rfl, u4⟩
        have R4 := R3.keep0 u4
        rw [level_rel R3]
        have fin : ∀ ρ' : Env, ρ' 1 = .slice pm more.length cm → ρ' 2 = .int .i64 o → ρ' 7 = ptrOf hb → ρ' 8 = ptrOf rb → ρ' 10 = .int .i64 (IntKind.i64.wrap ((k : Int) + 1)) → ∃ m', m' < more.length - k ∧ FallsI w0 L0 more (.slice pm more.length cm) o m' ρ' w4 := by
          intro ρ' e1 e2 e7 e8 e10
          exact ⟨more.length - (k + 1), by omega, k + 1, hb, mb, rb, E', v', rfl, by omega, by omega, e1, e2, e7, e8, by rw [e10, hwr], by rw [htk]; exact R4⟩
        by_cases hgt : levelL ((more.take k).foldl stepL L0) o < levelL (actL more[k] ((more.take k).foldl stepL L0)) o
        · have hc : more[k].act = 1 ∧ more[k].opn = o := by
            apply Classical.byContradiction
            intro hn
            have := falls Ik more[k] (hmok _ hmem) o hn
            omega
          obtain ⟨q1, q2⟩ := hc
          obtain ⟨b', oo', c', te', f', hidx', hbb', hsz', hrow', c0', c2'⟩ := act_read (hm.keep R4.u (by simp [noB])) k hlt
          simp [go_sem, h1, h2, h7, h8, h10, hgt, hidx', hbb', c0', c2', q1, q2]
          apply fin <;> simp [go_sem, h1, h2, h7, h8, h10]
        · simp [go_sem, h1, h2, h7, h8, h10, hgt]
          apply fin <;> simp [go_sem, h1, h2, h7, h8, h10]
      · have hk' : k = 20 := by omega
        subst hk'
        have hlt' : (20 : Int) < more.length := by omega
        simp [go_sem, h1, h2, h7, h8, h10, hlt, hlt']
        refine CallP.mono (works_any w') ?_
        rintro r w3 ⟨rfl, u3⟩
        simp [go_sem]
        exact R.u.trans u3
    · have hk' : k = more.length := by omega
      subst hk'
      simp [go_sem, h1, h2, h7, h8, h10]
      refine CallP.mono (works_any w') ?_
      rintro r w3 ⟨rfl, u3⟩
      simp [go_sem]
      exact R.u.trans u3
end Go.Proofs.Ytnelmicecaggoaa
