/-
  The laws' own helpers: when, holds, breaks, Ints.
-/
import Derived.Test.YtnelmicecaggoaaHoldV
import Derived.Test.YtnelmicecaggoaaHoldW
namespace Go.Proofs.Ytnelmicecaggoaa
open Go.Eng
set_option linter.unusedSimpArgs false
set_option linter.unusedVariables false
set_option maxRecDepth 100000
def whenI (n : Int) : Int := n % 18446744073709551616 % 1000000
theorem whenI_range (n : Int) : 0 ≤ whenI n ∧ whenI n < 1000000 := by unfold whenI; omega
theorem when_any (n : Int) (w : World) : CallP Try.prog 16 #[.int .i64 n] w (fun v w' => v = .int .i64 (whenI n) ∧ w' = w) := by
  have h := whenI_range n
  refine call_den (args := [_]) Try.func16 rfl rfl (by simp [Try.ntmps16]) ?_
  simp [go_sem]
  have e : IntKind.u64.wrap n = n % 18446744073709551616 := by
    simp only [IntKind.wrap, IntKind.bits, IntKind.signed]; simp
  have e2 : Int.tmod (n % 18446744073709551616) 1000000 = whenI n := by
    unfold whenI; rw [Int.tmod_eq_emod_of_nonneg (by omega)]
  rw [e, e2]
  exact wrap64_id (by omega) (by omega)
def SameI (n : Nat) (w : World) (va vb : Value) (m : Nat) (ρ : Env) (w' : World) : Prop :=
  ∃ k : Nat, m = n - k ∧ k ≤ n ∧ ρ 0 = va ∧ ρ 1 = vb ∧ ρ 5 = .int .i64 k ∧ Upd noB w w'
theorem holds_same {w : World} {va vb : Value} {L : List HV} (ra : RowAt w 6 va L.length (L.flatMap HV.row)) (rb : RowAt w 6 vb L.length (L.flatMap HV.row)) (hlen : L.length ≤ 1048576) :
    CallP Try.prog 18 #[va, vb] w (fun v w' => v = .bool true ∧ Upd noB w w') := by
  obtain ⟨pa, ca, rfl⟩ := ra.len
  obtain ⟨pb, cb, rfl⟩ := rb.len
  refine call_den (args := [_, _]) Try.func18 rfl rfl (by simp [Try.ntmps18]) ?_
  simp [go_sem]
  refine den_loop (SameI L.length w (.slice pa L.length ca) (.slice pb L.length cb)) L.length ?_ ?_
  · exact ⟨0, rfl, Nat.zero_le _, by simp [go_sem], by simp [go_sem], by simp [go_sem], Upd.refl _ _⟩
  · rintro m ρ w' ⟨k, rfl, hk, h0, h1, h5, hu⟩
    by_cases hlt : k < L.length
    · have hud : Upd noB w w'.drew := hu.drew
      obtain ⟨qa, ia, la, ka⟩ := (ra.keep hud (by simp [noB])).atN (P := Try.prog) (t := 29) (e := 32) Try.underlying29 Try.sizeOf32 Try.isAgg32 k hlt
      obtain ⟨qb, ib, lb, kb⟩ := (rb.keep hud (by simp [noB])).atN (P := Try.prog) (t := 29) (e := 32) Try.underlying29 Try.sizeOf32 Try.isAgg32 k hlt
      rw [flat_at HV.row 6 HV.row_len L k hlt] at la lb
      have hwr : IntKind.i64.wrap ((k : Int) + 1) = ((k + 1 : Nat) : Int) := wrap64_id (by omega) (by omega)
      generalize L[k] = x at *
      have hx : x.row.toArray = #[.int .i64 x.node, .int .i64 x.opn, .int .u8 x.level, .bool x.brk, .int .u8 x.to, .int .i64 x.since] := rfl
      rw [hx] at la lb
      simp [go_sem, h0, h1, h5, hlt]
      refine draw_script [.pure 0, .pure 1, .pure 4, .pure 5, .still [2, 3, 6, 7], .one 8] (by kernel_rfl) (by kernel_rfl) (by kernel_rfl) ?_
      simp [go_sem, h0, h1, h5, hlt, ia, ib, Q_load_fix (W := fun _ : Unit => w'.drew) (fun _ => la), Q_load_fix (W := fun _ : Unit => w'.drew) (fun _ => lb)]
      exact ⟨L.length - (k + 1), by omega, k + 1, rfl, by omega, by simp [go_sem, h0], by simp [go_sem, h1], by simp [go_sem, hwr], hud⟩
    · have hk' : k = L.length := by omega
      subst hk'
      simp [go_sem, h0, h1, h5]
      exact hu
theorem breaks_same {w : World} {va vb : Value} {L : List HV} {to : Int} (ra : RowAt w 2 va L.length (L.flatMap (brkL to))) (rb : RowAt w 2 vb L.length (L.flatMap (brkL to))) (hlen : L.length ≤ 1048576) :
    CallP Try.prog 21 #[va, vb] w (fun v w' => v = .bool true ∧ Upd noB w w') := by
  obtain ⟨pa, ca, rfl⟩ := ra.len
  obtain ⟨pb, cb, rfl⟩ := rb.len
  refine call_den (args := [_, _]) Try.func21 rfl rfl (by simp [Try.ntmps21]) ?_
  simp [go_sem]
  refine den_loop (SameI L.length w (.slice pa L.length ca) (.slice pb L.length cb)) L.length ?_ ?_
  · exact ⟨0, rfl, Nat.zero_le _, by simp [go_sem], by simp [go_sem], by simp [go_sem], Upd.refl _ _⟩
  · rintro m ρ w' ⟨k, rfl, hk, h0, h1, h5, hu⟩
    by_cases hlt : k < L.length
    · have hud : Upd noB w w'.drew := hu.drew
      obtain ⟨qa, ia, la, ka⟩ := (ra.keep hud (by simp [noB])).atN (P := Try.prog) (t := 34) (e := 40) Try.underlying34 Try.sizeOf40 Try.isAgg40 k hlt
      obtain ⟨qb, ib, lb, kb⟩ := (rb.keep hud (by simp [noB])).atN (P := Try.prog) (t := 34) (e := 40) Try.underlying34 Try.sizeOf40 Try.isAgg40 k hlt
      rw [flat_at (brkL to) 2 (fun _ => rfl) L k hlt] at la lb
      have hwr : IntKind.i64.wrap ((k : Int) + 1) = ((k + 1 : Nat) : Int) := wrap64_id (by omega) (by omega)
      generalize L[k] = x at *
      have hx : (brkL to x).toArray = #[.int .i64 x.opn, .int .u8 to] := rfl
      rw [hx] at la lb
      simp [go_sem, h0, h1, h5, hlt]
      refine draw_script [.pure 0, .pure 1, .pure 4, .pure 5, .still [2, 3, 6, 7], .one 8] (by kernel_rfl) (by kernel_rfl) (by kernel_rfl) ?_
      simp [go_sem, h0, h1, h5, hlt, ia, ib, Q_load_fix (W := fun _ : Unit => w'.drew) (fun _ => la), Q_load_fix (W := fun _ : Unit => w'.drew) (fun _ => lb)]
      exact ⟨L.length - (k + 1), by omega, k + 1, rfl, by omega, by simp [go_sem, h0], by simp [go_sem, h1], by simp [go_sem, hwr], hud⟩
    · have hk' : k = L.length := by omega
      subst hk'
      simp [go_sem, h0, h1, h5]
      exact hu
theorem ints_same {w : World} {va vb : Value} {L : List HV} (ra : RowAt w 1 va L.length (L.map opnL)) (rb : RowAt w 1 vb L.length (L.map opnL)) (hlen : L.length ≤ 1048576) :
    CallP Try.prog 23 #[va, vb] w (fun v w' => v = .bool true ∧ Upd noB w w') := by
  obtain ⟨pa, ca, rfl⟩ := ra.len
  obtain ⟨pb, cb, rfl⟩ := rb.len
  refine call_den (args := [_, _]) Try.func23 rfl rfl (by simp [Try.ntmps23]) ?_
  simp [go_sem]
  refine den_loop (SameI L.length w (.slice pa L.length ca) (.slice pb L.length cb)) L.length ?_ ?_
  · exact ⟨0, rfl, Nat.zero_le _, by simp [go_sem], by simp [go_sem], by simp [go_sem], Upd.refl _ _⟩
  · rintro m ρ w' ⟨k, rfl, hk, h0, h1, h5, hu⟩
    by_cases hlt : k < L.length
    · have hud : Upd noB w w'.drew := hu.drew
      have hx : (L.map opnL)[k]? = some (.int .i64 L[k].opn) := by simp [hlt, opnL]
      obtain ⟨qa, ia, la, ka⟩ := (ra.keep hud (by simp [noB])).at1 (P := Try.prog) (t := 55) (e := 3) Try.underlying55 Try.sizeOf3 Try.isAgg3 k hlt _ hx
      obtain ⟨qb, ib, lb, kb⟩ := (rb.keep hud (by simp [noB])).at1 (P := Try.prog) (t := 55) (e := 3) Try.underlying55 Try.sizeOf3 Try.isAgg3 k hlt _ hx
      have hwr : IntKind.i64.wrap ((k : Int) + 1) = ((k + 1 : Nat) : Int) := wrap64_id (by omega) (by omega)
      generalize L[k] = x at *
      simp [go_sem, h0, h1, h5, hlt]
      refine draw_script [.pure 0, .pure 1, .pure 4, .pure 5, .still [2, 3, 6, 7], .one 8] (by kernel_rfl) (by kernel_rfl) (by kernel_rfl) ?_
      simp [go_sem, h0, h1, h5, hlt, ia, ib, Q_load_fix (W := fun _ : Unit => w'.drew) (fun _ => la), Q_load_fix (W := fun _ : Unit => w'.drew) (fun _ => lb)]
      exact ⟨L.length - (k + 1), by omega, k + 1, rfl, by omega, by simp [go_sem, h0], by simp [go_sem, h1], by simp [go_sem, hwr], hud⟩
    · have hk' : k = L.length := by omega
      subst hk'
      simp [go_sem, h0, h1, h5]
      exact hu
/-! ### both: the program's holds and the document's -/
/-- since world w0: the program's holds (hb, mb, E) and the document's (rb, v, L) -/
structure Rel (w0 w : World) (hb mb : Nat) (E : List (HV × Nat)) (rb : Nat) (v : Value) (L : List HV) (n : Nat) : Prop where
  h : HoldsRep w hb mb E
  r : RefRep w w0.heap.size rb v L
  u : Upd noB w0 w
  hn : NewSince w0.heap.size hb mb E
  rn : w0.heap.size ≤ rb
  dj : ∀ b, fpH hb mb E b → ¬ fpR rb v b
  pm : (E.map (·.1)).Perm L
  srt : Srt L
  rg : ∀ x, x ∈ L → 1 ≤ x.opn ∧ x.opn < 9223372036854775808
  len : L.length ≤ n
variable {w0 w : World} {hb mb rb : Nat} {E : List (HV × Nat)} {v : Value} {L : List HV} {n : Nat}
theorem Rel.elen (R : Rel w0 w hb mb E rb v L n) : E.length = L.length := by rw [← R.pm.length_eq, List.length_map]
theorem Rel.hO (R : Rel w0 w hb mb E rb v L n) : ∀ x, x ∈ E → 1 ≤ x.1.opn ∧ x.1.opn < 9223372036854775808 := fun x hx => R.rg _ (R.pm.mem_iff.1 (List.mem_map.2 ⟨x, hx, rfl⟩))
theorem Rel.keep0 {w' : World} (R : Rel w0 w hb mb E rb v L n) (hu : Upd noB w w') : Rel w0 w' hb mb E rb v L n :=
  { R with h := R.h.keep0 hu, r := R.r.keep0 hu, u := R.u.trans hu }
theorem Rel.find (R : Rel w0 w hb mb E rb v L n) (o : Int) : (findE E o).map (·.1) = findL L o := by
  cases hE : findE E o with
  | some x =>
    obtain ⟨hx, ho⟩ := findE_some hE
    have hxL : x.1 ∈ L := R.pm.mem_iff.1 (List.mem_map.2 ⟨x, hx, rfl⟩)
    obtain ⟨i, hi, he⟩ := List.getElem_of_mem hxL
    rw [findL_at R.srt i hi (he ▸ ho), he]
    rfl
  | none =>
    rw [findL_none]
    · rfl
    · intro x hx ho
      obtain ⟨y, hy, rfl⟩ := List.mem_map.1 (R.pm.mem_iff.2 hx)
      have := List.find?_eq_none.1 hE y hy
      simp [ho] at this
theorem updE_map (E : List (HV × Nat)) (k : Int) (h : HV) : (updE E k h).map (·.1) = updL (E.map (·.1)) k h := by
  unfold updE updL
  rw [List.map_map, List.map_map]
  refine List.map_congr_left fun y _ => ?_
  simp only [Function.comp_apply]
  split <;> rfl
theorem fpR_of {b : Nat} : fpR rb v b ↔ b = rb ∨ v.ownBlock = some b := Iff.rfl
theorem updE_blocks {k : Int} {h : HV} {x : HV × Nat} (hx : x ∈ updE E k h) : ∃ y, y ∈ E ∧ y.2 = x.2 := by
  obtain ⟨y, hy, rfl⟩ := List.mem_map.1 hx
  refine ⟨y, hy, ?_⟩
  split <;> rfl
theorem fpH_sub {E' : List (HV × Nat)} (h : ∀ x, x ∈ E' → ∃ y, y ∈ E ∧ y.2 = x.2) {b : Nat} (hb' : fpH hb mb E' b) : fpH hb mb E b := by
  rcases hb' with h1 | h1 | ⟨x, hx, h1⟩
  · exact Or.inl h1
  · exact Or.inr (Or.inl h1)
  · obtain ⟨y, hy, e⟩ := h x hx
    exact Or.inr (Or.inr ⟨y, hy, e.trans h1⟩)
/-- one more step: the program's part has turned in its own blocks, then the document's in its own -/
theorem Rel.next {w1 w2 : World} {E' : List (HV × Nat)} {v' : Value} {L' : List HV} (R : Rel w0 w hb mb E rb v L n) (h1 : HoldsRep w1 hb mb E') (u1 : Upd (fpH hb mb E) w w1) (hE : ∀ x, x ∈ E' → (∃ y, y ∈ E ∧ y.2 = x.2) ∨ w.heap.size ≤ x.2)
    (r2 : RefRep w2 w0.heap.size rb v' L') (u2 : Upd (fpR rb v) w1 w2) (hv : v' = v ∨ ∀ b, v'.ownBlock = some b → w1.heap.size ≤ b) (pm : (E'.map (·.1)).Perm L') (srt : Srt L') (rg : ∀ x, x ∈ L' → 1 ≤ x.opn ∧ x.opn < 9223372036854775808) {n' : Nat} (len : L'.length ≤ n') :
    Rel w0 w2 hb mb E' rb v' L' n' := by
  have hfp : ∀ b, fpH hb mb E' b → fpH hb mb E b ∨ w.heap.size ≤ b := by
    rintro b (h | h | ⟨x, hx, rfl⟩)
    · exact Or.inl (Or.inl h)
    · exact Or.inl (Or.inr (Or.inl h))
    · rcases hE x hx with ⟨y, hy, e⟩ | h
      · exact Or.inl (Or.inr (Or.inr ⟨y, hy, e⟩))
      · exact Or.inr h
  have hold : ∀ b, fpR rb v b → b < w.heap.size := by
    rintro b (rfl | h)
    · exact (old_ne R.r.rd).1
    · exact (R.r.own.lt b h).2
  have hnew : ∀ b, fpH hb mb E' b → b < w1.heap.size := by
    rintro b (rfl | rfl | ⟨x, hx, rfl⟩)
    · exact (old_ne h1.hd).1
    · exact h1.mp.lt
    · exact (old_ne (h1.cells x hx)).1
  have hdj1 : ∀ b, fpH hb mb E' b → ¬ fpR rb v b := by
    intro b hb hr
    rcases hfp b hb with h | h
    · exact R.dj b h hr
    · have := hold b hr; omega
  refine ⟨h1.keep u2 hdj1, r2, ?_, ?_, R.rn, ?_, pm, srt, rg, len⟩
  · refine (R.u.trans' u1 (fun b hb hlt => by have := R.hn b hb; omega)).trans' u2 ?_
    rintro b (rfl | h) hlt
    · have := R.rn; omega
    · have := (R.r.own.lt b h).1; omega
  · intro b hb
    rcases hfp b hb with h | h
    · exact R.hn b h
    · have := R.u.size; omega
  · intro b hb hr
    rcases hv with rfl | hv
    · exact hdj1 b hb hr
    · rcases hr with rfl | hr
      · exact hdj1 _ hb (Or.inl rfl)
      · have := hv b hr; have := hnew b hb; omega
end Go.Proofs.Ytnelmicecaggoaa
