import Derived.Test.YtnelmicecaggoaaHoldA
namespace Go.Proofs.Ytnelmicecaggoaa
open Go.Eng
set_option linter.unusedSimpArgs false
set_option maxRecDepth 100000
theorem HV.size (h : HV) : h.cells.size = 6 := (rfl)
theorem HV.take (h : HV) : List.take 6 h.cells.toList = h.cells.toList := (rfl)
theorem slH : SlT Try.prog 29 32 6 32 :=
  SlT.mk' Try.underlying29 (i := Try.t32) (z := .agg #[.int .i64 0, .int .i64 0, .int .u8 0, .bool false, .int .u8 0, .int .i64 0]) (by kernel_rfl) (by kernel_rfl) (by kernel_rfl) (by kernel_rfl) rfl (by decide)
theorem wantAll (x : Value) (w : World) : CallP Try.prog 33 #[x] w (fun v w' => v = .bool true ∧ Upd noB w w') := by
  refine call_den (args := [_]) Try.func33 rfl rfl (by simp [Try.ntmps33]) ?_
  simp [go_sem]
  exact Upd.refl _ _
def AllI (w1 : World) (F : List (HV × Nat)) (vs : Value) (m : Nat) (ρ : Env) (w' : World) : Prop :=
  ∃ (k : Nat) (v : Value), m = F.length - k ∧ k ≤ F.length ∧ ρ 3 = v ∧ ρ 9 = vs ∧ ρ 10 = .int .i64 F.length ∧ ρ 11 = .int .i64 k ∧ Upd noB w1 w' ∧
    w'.ownsRow w1.heap.size 32 6 v k ((F.take k).flatMap fun x => x.1.cells.toList)
theorem all_any {w : World} {hb mb : Nat} {E : List (HV × Nat)} (R : HoldsRep w hb mb E) (hO : ∀ x, x ∈ E → 1 ≤ x.1.opn ∧ x.1.opn < 9223372036854775808) (hlen : E.length ≤ 1048576) :
    CallP Try.prog 13 #[ptrOf hb] w (fun v w' => Upd noB w w' ∧ ∃ F : List (HV × Nat), F.Perm E ∧ F.Pairwise (fun x y => x.1.opn < y.1.opn) ∧
      w'.ownsRow w.heap.size 32 6 v F.length (F.flatMap fun x => x.1.cells.toList)) := by
  refine call_den (args := [_]) Try.func13 rfl rfl (by simp [Try.ntmps13]) ?_
  simp [go_sem]
  refine off_any hb mb w R.hd _ ?_
  simp [go_sem]
  refine CallP.mono (sorted_any R hO hlen _ #[] (fun _ => true) (by intro args w; exact Try.call33 args w) (fun x hx w' hu => wantAll _ w')) ?_
  rintro vs w1 ⟨hu, F, hF, hs, own⟩
  have row := RowAt.of_own own
  obtain ⟨q, cap, rfl⟩ := row.len
  have hF' : F.Perm E := by rw [List.filter_eq_self.2 (by simp)] at hF; exact hF
  have hFl : F.length ≤ 1048576 := by rw [hF'.length_eq]; exact hlen
  simp [go_sem]
  refine den_loop (AllI w1 F (.slice q F.length cap)) F.length ?_ ?_
  · refine ⟨0, _, rfl, Nat.zero_le _, rfl, ?_, ?_, ?_, Upd.refl _ _, ?_⟩ <;> simp [go_sem]
    exact World.ownsRow_nil _ _ _ _
  · rintro m ρ w' ⟨k, v, rfl, hk, h3, h9, h10, h11, hu1, own1⟩
    by_cases hlt : k < F.length
    · have hx : (F.map fun x => ptrOf x.2)[k]? = some (ptrOf F[k].2) := by simp [hlt]
      obtain ⟨p, hi, _, hl⟩ := (row.keep hu1 (by simp [noB])).at1 (P := Try.prog) (t := 67) (e := 69) Try.underlying67 Try.sizeOf69 Try.isAgg69 k hlt _ hx
      have hc : w'.heap[F[k].2]? = some (.cells F[k].1.cells 32 (0, 0)) := hu1.get (hu.get (R.cells _ (hF'.mem_iff.1 (List.getElem_mem hlt))) (by simp [noB])) (by simp [noB])
      have own2 := own1.alloc (.cells F[k].1.cells 32)
      obtain ⟨v', w5, hap, own5, hgr, _⟩ := slH.append_all own2 29 (b := w'.heap.size) (m := 1) (c := 1) (cs := F[k].1.cells) (by rw [heap_alloc, if_pos rfl]) rfl (by simp [HV.cells, Value.oneCell']) (by omega) (by unfold maxLen; omega) (by have := hu1.size; simp; omega)
      have hbs := slH.build1K (P := Try.prog) (w := w') (.agg F[k].1.cells) rfl (by decide)
      have hxE := hF'.mem_iff.1 (List.getElem_mem hlt)
      have hd : (F.take (k + 1)).flatMap (fun x => x.1.cells.toList) = (F.take k).flatMap (fun x => x.1.cells.toList) ++ F[k].1.cells.toList := by
        rw [List.take_succ_eq_append_getElem hlt, List.flatMap_append]; simp
      generalize F[k] = x at *
      simp [go_sem, h3, h9, h10, h11, hlt, hi, hl, hc, hbs, K_append_ok _ _ _ _ hap, HV.size, HV.take]
      refine ⟨F.length - (k + 1), by omega, k + 1, _, rfl, by omega, rfl, ?_, ?_, ?_, upd_append own1 (hu1.alloc _) (Nat.le_refl _) hgr, by rw [hd]; simpa [go_sem] using own5⟩ <;> simp [go_sem, h9, h10, h11]
      exact wrap64_id (by omega) (by omega)
    · have hk' : k = F.length := by omega
      subst hk'
      simp [go_sem, h3, h9, h10, h11]
      refine ⟨hu.trans hu1, F, hF', hs, ?_⟩
      rw [List.take_length] at own1
      exact own_base own1 hu.size

/-! ### one open's hold -/
def findE (E : List (HV × Nat)) (k : Int) : Option (HV × Nat) := E.find? fun x => x.1.opn == k
def updE (E : List (HV × Nat)) (k : Int) (h : HV) : List (HV × Nat) := E.map fun y => if y.1.opn == k then (h, y.2) else y
theorem lookupE (E : List (HV × Nat)) (k : Int) : lookupL (E.map fun x => (x.1.opn, ptrOf x.2)) k = (findE E k).map fun x => ptrOf x.2 := by
  unfold lookupL findE
  rw [List.find?_map, Option.map_map]
  rfl
theorem findE_some {E : List (HV × Nat)} {k : Int} {x : HV × Nat} (h : findE E k = some x) : x ∈ E ∧ x.1.opn = k := by
  refine ⟨List.mem_of_find?_eq_some h, ?_⟩
  have := List.find?_some h
  simpa using this
theorem HoldsRep.opns {w : World} {hb mb : Nat} {E : List (HV × Nat)} (R : HoldsRep w hb mb E) : (E.map fun x => x.1.opn).Nodup := by
  obtain ⟨es, clk, _, _, _, hnd⟩ := R.mp
  simpa [List.map_map, Function.comp_def] using hnd
theorem nodup_inj {α β : Type} {f : α → β} {l : List α} (h : (l.map f).Nodup) {x y : α} (hx : x ∈ l) (hy : y ∈ l) (e : f x = f y) : x = y := by
  induction l with
  | nil => cases hx
  | cons z r ih =>
    simp only [List.map_cons, List.nodup_cons] at h
    rcases List.mem_cons.1 hx with h1 | h1
    · rcases List.mem_cons.1 hy with h2 | h2
      · rw [h1, h2]
      · exact absurd (List.mem_map.2 ⟨y, h2, by rw [← e, h1]⟩) h.1
    · rcases List.mem_cons.1 hy with h2 | h2
      · exact absurd (List.mem_map.2 ⟨x, h1, by rw [e, h2]⟩) h.1
      · exact ih h.2 h1 h2
theorem HoldsRep.uniq {w : World} {hb mb : Nat} {E : List (HV × Nat)} (R : HoldsRep w hb mb E) {x y : HV × Nat} (hx : x ∈ E) (hy : y ∈ E) (h : x.1.opn = y.1.opn) : x = y := nodup_inj R.opns hx hy h
theorem HoldsRep.uniqB {w : World} {hb mb : Nat} {E : List (HV × Nat)} (R : HoldsRep w hb mb E) {x y : HV × Nat} (hx : x ∈ E) (hy : y ∈ E) (h : x.2 = y.2) : x = y := nodup_inj R.nd hx hy h
theorem HoldsRep.ne_hb {w : World} {hb mb : Nat} {E : List (HV × Nat)} (R : HoldsRep w hb mb E) {x : HV × Nat} (hx : x ∈ E) : x.2 ≠ hb := by
  intro e
  have h1 := R.cells x hx
  have h2 := R.hd
  rw [e, h2] at h1
  injection h1 with h1
  injection h1 with h1
  have := congrArg Array.size h1
  simp [HV.cells] at this
theorem HoldsRep.ne_mb {w : World} {hb mb : Nat} {E : List (HV × Nat)} (R : HoldsRep w hb mb E) {x : HV × Nat} (hx : x ∈ E) : x.2 ≠ mb := by
  intro e
  have h1 := R.cells x hx
  obtain ⟨es, clk, hm, _⟩ := R.mp
  rw [e, hm] at h1
  cases h1
theorem HoldsRep.hb_mb {w : World} {hb mb : Nat} {E : List (HV × Nat)} (R : HoldsRep w hb mb E) : hb ≠ mb := by
  intro e
  have h1 := R.hd
  obtain ⟨es, clk, hm, _⟩ := R.mp
  rw [e, hm] at h1
  cases h1
/-- the blocks of a Holds -/
def fpH (hb mb : Nat) (E : List (HV × Nat)) (b : Nat) : Prop := b = hb ∨ b = mb ∨ ∃ x, x ∈ E ∧ x.2 = b
theorem HoldsRep.keep {w w' : World} {hb mb : Nat} {E : List (HV × Nat)} {S : Nat → Prop} (R : HoldsRep w hb mb E) (hu : Upd S w w') (hS : ∀ b, fpH hb mb E b → ¬ S b) : HoldsRep w' hb mb E :=
  ⟨hu.get R.hd (hS _ (Or.inl rfl)), R.mp.keep hu (hS _ (Or.inr (Or.inl rfl))), fun x hx => hu.get (R.cells x hx) (hS _ (Or.inr (Or.inr ⟨x, hx, rfl⟩))), R.nd⟩
theorem HoldsRep.keep0 {w w' : World} {hb mb : Nat} {E : List (HV × Nat)} (R : HoldsRep w hb mb E) (hu : Upd noB w w') : HoldsRep w' hb mb E := R.keep hu (fun _ _ h => h)
theorem HoldsRep.upd {w w' : World} {hb mb : Nat} {E : List (HV × Nat)} (R : HoldsRep w hb mb E) {k : Int} {x : HV × Nat} (hx : findE E k = some x) (h : HV) (ho : h.opn = k) (hw : w'.heap[x.2]? = some (.cells h.cells 32 (0, 0))) (hu : Upd (fun b => b = x.2) w w') :
    HoldsRep w' hb mb (updE E k h) := by
  obtain ⟨hxE, hxo⟩ := findE_some hx
  refine ⟨hu.get R.hd (fun e => R.ne_hb hxE e.symm), ?_, ?_, ?_⟩
  · have : (updE E k h).map (fun x => (x.1.opn, ptrOf x.2)) = E.map fun x => (x.1.opn, ptrOf x.2) := by
      unfold updE
      rw [List.map_map]
      refine List.map_congr_left fun y hy => ?_
      simp only [Function.comp_apply]
      by_cases hk : y.1.opn == k
      · rw [if_pos hk]; simp at hk; simp [ho, hk]
      · rw [if_neg hk]
    rw [this]
    exact R.mp.keep hu (fun e => R.ne_mb hxE e.symm)
  · intro z hz
    obtain ⟨y, hy, rfl⟩ := List.mem_map.1 hz
    by_cases hk : y.1.opn = k
    · have : y = x := R.uniq hy hxE (hk.trans hxo.symm)
      subst this
      simp [hk, hw]
    · have h2 : (y.1.opn == k) = false := by simp [hk]
      simp only [h2, Bool.false_eq_true, if_false]
      exact hu.get (R.cells y hy) (fun e => hk (by rw [R.uniqB hy hxE e]; exact hxo))
  · have : (updE E k h).map (·.2) = E.map (·.2) := by
      unfold updE
      rw [List.map_map]
      refine List.map_congr_left fun y hy => ?_
      simp only [Function.comp_apply]
      split <;> rfl
    rw [this]; exact R.nd
def levelE (E : List (HV × Nat)) (k : Int) : Int := match findE E k with | some x => x.1.level | none => 0
theorem level_any {w : World} {hb mb : Nat} {E : List (HV × Nat)} (R : HoldsRep w hb mb E) (o : Int) :
    CallP Try.prog 19 #[ptrOf hb, .int .i64 o] w (fun v w' => v = .int .u8 (levelE E o) ∧ Upd noB w w') := by
  have hl := lookupMap_run (P := Try.prog) (t := 60) R.mp Try.underlying60 Try.underlying3 (.pointer none) (Try.zeroValue69 w) o
  rw [lookupE] at hl
  have hd := R.hd
  refine call_den (args := [_, _]) Try.func19 rfl rfl (by simp [Try.ntmps19]) ?_
  simp [go_sem]
  refine off_any hb mb w R.hd _ ?_
  simp [go_sem, hd]
  rw [K_lookup_ok _ _ _ _ _ hl]
  unfold levelE
  cases hx : findE E o with
  | none =>
    simp [go_sem]
    exact Upd.refl _ _
  | some x =>
    rw [hx] at hl
    have hc := R.cells x (findE_some hx).1
    unfold HV.cells at hc
    simp only [Option.map_some, Option.getD_some] at hl
    simp [go_sem, hd, K_lookup_ok _ _ _ _ _ hl, hc]
    exact Upd.refl _ _
end Go.Proofs.Ytnelmicecaggoaa
