import Derived.Test.YtnelmicecaggoaaHoldD
namespace Go.Proofs.Ytnelmicecaggoaa
open Go.Eng
set_option linter.unusedSimpArgs false
set_option maxRecDepth 100000
/-! ### Late -/
def lateP (tick : Int) (h : HV) : Bool := h.brk && (decide (h.since ≤ tick) && decide (3 ≤ IntKind.i64.wrap (tick - h.since)))
theorem lateWant (b c1 : Nat) (x : HV) (tick : Int) (w : World) {t1 : TypeId} (hc : w.heap[b]? = some (.cells x.cells 32 (0, 0))) (h1 : w.heap[c1]? = some (.cells #[.int .i64 tick] t1 (0, 0))) :
    CallP Try.prog 39 #[ptrOf b, ptrOf c1] w (fun v w' => v = .bool (lateP tick x) ∧ Upd noB w w') := by
  unfold HV.cells at hc
  refine call_den (args := [_, _]) Try.func39 rfl rfl (by simp [Try.ntmps39]) ?_
  simp [go_sem]
  refine draw_reads (by kernel_rfl) (by kernel_rfl) (by kernel_rfl) ?_
  unfold lateP
  cases g1 : x.brk with
  | false =>
    rw [g1] at hc
    simp [go_sem, hc, h1, g1]
    intro i; exact (Upd.refl _ _).drewN _
  | true =>
    rw [g1] at hc
    by_cases g2 : x.since ≤ tick
    · by_cases g3 : 3 ≤ IntKind.i64.wrap (tick - x.since)
      · simp [go_sem, hc, h1, g2, g3]
        intro i; exact (Upd.refl _ _).drewN _
      · simp [go_sem, hc, h1, g2, g3]
        intro i; exact (Upd.refl _ _).drewN _
    · simp [go_sem, hc, h1, g2]
      intro i; exact (Upd.refl _ _).drewN _
theorem slInt : SlT Try.prog 55 3 1 8 :=
  SlT.mk' Try.underlying55 (i := Try.t3) (z := .int .i64 0) (by kernel_rfl) (by kernel_rfl) (by kernel_rfl) (by kernel_rfl) rfl (by decide)
def opn1 (x : HV × Nat) : Value := .int .i64 x.1.opn
def LateI (w1 : World) (F : List (HV × Nat)) (vs : Value) (m : Nat) (ρ : Env) (w' : World) : Prop :=
  ∃ (k : Nat) (v : Value), m = F.length - k ∧ k ≤ F.length ∧ ρ 5 = v ∧ ρ 12 = vs ∧ ρ 13 = .int .i64 F.length ∧ ρ 14 = .int .i64 k ∧ Upd noB w1 w' ∧
    w'.ownsRow w1.heap.size 3 1 v k ((F.take k).map opn1)
theorem late_any {w : World} {hb mb : Nat} {E : List (HV × Nat)} (R : HoldsRep w hb mb E) (hO : ∀ x, x ∈ E → 1 ≤ x.1.opn ∧ x.1.opn < 9223372036854775808) (hlen : E.length ≤ 1048576) (tick : Int) :
    CallP Try.prog 24 #[ptrOf hb, .int .i64 tick] w (fun v w' => Upd noB w w' ∧ ∃ F : List (HV × Nat), F.Perm (E.filter fun x => lateP tick x.1) ∧ F.Pairwise (fun x y => x.1.opn < y.1.opn) ∧
      w'.ownsRow w.heap.size 3 1 v F.length (F.map opn1)) := by
  refine call_den (args := [_, _]) Try.func24 rfl rfl (by simp [Try.ntmps24]) ?_
  simp [go_sem]
  refine off_any hb mb _ (by rw [heap_alloc, if_neg]; exact R.hd; exact (old_ne R.hd).2.1) _ ?_
  simp [go_sem]
  refine CallP.mono (sorted_any (R.keep0 (by repeat (first | exact Upd.refl _ _ | refine Upd.alloc ?_ _ | refine Upd.drew ?_ | refine Upd.drewN ?_ _ | refine Upd.setB ?_ _ _ (fun h => absurd h (by omega))))) hO hlen _ _ (lateP tick) (by intro args w; exact Try.call39 args w) (fun x hx w' hu => ?_)) ?_
  · exact lateWant x.2 _ x.1 tick w' (hu.get ((R.keep0 (by repeat (first | exact Upd.refl _ _ | refine Upd.alloc ?_ _ | refine Upd.drew ?_ | refine Upd.drewN ?_ _ | refine Upd.setB ?_ _ _ (fun h => absurd h (by omega))))).cells x hx) (by simp [noB])) (hu.get (by simp only [heap_setB, heap_alloc, heap_drew, heap_drewN, size_setB, World.size_alloc]; (repeat (first | rw [if_pos trivial] | rw [if_pos (by omega)] | rw [if_neg (by omega)])); try rfl) (by simp [noB]))
  rintro vs w1 ⟨hu1, F, hF, hs, own⟩
  have row := RowAt.of_own own
  obtain ⟨q, cap, rfl⟩ := row.len
  have hu2 : Upd noB w w1 := Upd.trans (by repeat (first | exact Upd.refl _ _ | refine Upd.alloc ?_ _ | refine Upd.drew ?_ | refine Upd.drewN ?_ _ | refine Upd.setB ?_ _ _ (fun h => absurd h (by omega)))) hu1
  have hFl : F.length ≤ 1048576 := by rw [hF.length_eq]; exact Nat.le_trans (List.length_filter_le _ _) hlen
  have hcells : ∀ x, x ∈ F → w1.heap[x.2]? = some (.cells x.1.cells 32 (0, 0)) := fun x hx => hu2.get (R.cells x (List.mem_filter.1 (hF.mem_iff.1 hx)).1) (by simp [noB])
  simp [go_sem]
  refine den_loop (LateI w1 F (.slice q F.length cap)) F.length ?_ ?_
  · refine ⟨0, _, rfl, Nat.zero_le _, rfl, ?_, ?_, ?_, Upd.refl _ _, ?_⟩ <;> simp [go_sem]
    exact World.ownsRow_nil _ _ _ _
  · rintro m ρ w' ⟨k, v, rfl, hk, h5, h12, h13, h14, hu3, own1⟩
    by_cases hlt : k < F.length
    · have hx : (F.map fun x => ptrOf x.2)[k]? = some (ptrOf F[k].2) := by simp [hlt]
      obtain ⟨p, hi, _, hl⟩ := (row.keep hu3 (by simp [noB])).at1 (P := Try.prog) (t := 67) (e := 69) Try.underlying67 Try.sizeOf69 Try.isAgg69 k hlt _ hx
      have hc : w'.heap[F[k].2]? = some (.cells F[k].1.cells 32 (0, 0)) := hu3.get (hcells _ (List.getElem_mem hlt)) (by simp [noB])
      have hd : (F.take (k + 1)).map opn1 = (F.take k).map opn1 ++ [opn1 F[k]] := by
        rw [List.take_succ_eq_append_getElem hlt, List.map_append]; simp
      generalize F[k] = x at *
      have hbs := slInt.build1 (w := w') (.int .i64 x.1.opn) rfl (by decide)
      have own2 := own1.alloc (.cells #[.int .i64 x.1.opn] 3)
      obtain ⟨v', w5, hap, own5, hgr, _⟩ := slInt.append_all own2 55 (b := w'.heap.size) (m := 1) (c := 1) (cs := #[.int .i64 x.1.opn]) (by rw [heap_alloc, if_pos rfl]) rfl (by simp [Value.oneCell']) (by omega) (by unfold maxLen; omega) (by have := hu3.size; simp; omega)
      unfold HV.cells at hc
      simp [go_sem, h5, h12, h13, h14, hlt, hi, hl, hc, K_buildSlice_ok _ _ _ _ hbs, K_append_ok _ _ _ _ hap]
      refine ⟨F.length - (k + 1), by omega, k + 1, _, rfl, by omega, rfl, ?_, ?_, ?_, upd_append own1 (hu3.alloc _) (Nat.le_refl _) hgr, by rw [hd]; simpa [go_sem, opn1] using own5⟩ <;> simp [go_sem, h12, h13, h14]
      exact wrap64_id (by omega) (by omega)
    · have hk' : k = F.length := by omega
      subst hk'
      simp [go_sem, h5, h12, h13, h14]
      refine ⟨hu2.trans hu3, F, hF, hs, ?_⟩
      rw [List.take_length] at own1
      exact own_base own1 hu2.size
/-! ### none, and zero ones -/
/-- a Holds that is none: nil, or zero -/
def NilH (w : World) (v : Value) : Prop := v = .pointer none ∨ ∃ b, v = ptrOf b ∧ w.heap[b]? = some (.cells #[.map none] 62 (0,0))
theorem NilH.keep {w w' : World} {v : Value} (h : NilH w v) (hu : Upd noB w w') : NilH w' v :=
  h.imp id fun ⟨b, e, hc⟩ => ⟨b, e, hu.get hc (by simp [noB])⟩
theorem off_no {w : World} {v : Value} (h : NilH w v) (k : Value → World → Prop) (hk : k (.bool true) w) : CallP Try.prog 31 #[v] w k := by
  rcases h with rfl | ⟨b, rfl, hc⟩
  · exact off_nil w k hk
  · exact off_zero b w hc k hk
theorem give_no {w : World} {v : Value} (h : NilH w v) (node o want others : Int) (locked : Bool) :
    CallP Try.prog 28 #[v, .int .i64 node, .int .i64 o, .int .u8 want, .int .i64 others, .bool locked] w (fun r w' => r = .tuple #[.int .u8 0, .int .i64 1] ∧ Upd noB w w') := by
  refine call_den (args := [_, _, _, _, _, _]) Try.func28 rfl rfl (by simp [Try.ntmps28]) ?_
  simp [go_sem]
  refine off_no h _ ?_
  simp [go_sem]
  exact Upd.refl _ _
theorem break_no {w : World} {v : Value} (h : NilH w v) (o to tick : Int) :
    CallP Try.prog 15 #[v, .int .i64 o, .int .u8 to, .int .i64 tick] w (fun r w' => r = .tuple #[.bool false, .int .i64 1] ∧ Upd noB w w') := by
  refine call_den (args := [_, _, _, _]) Try.func15 rfl rfl (by simp [Try.ntmps15]) ?_
  simp [go_sem]
  refine off_no h _ ?_
  simp [go_sem]
  exact Upd.refl _ _
theorem ack_no {w : World} {v : Value} (h : NilH w v) (o level : Int) :
    CallP Try.prog 17 #[v, .int .i64 o, .int .u8 level] w (fun r w' => r = .int .i64 1 ∧ Upd noB w w') := by
  refine call_den (args := [_, _, _]) Try.func17 rfl rfl (by simp [Try.ntmps17]) ?_
  simp [go_sem]
  refine off_no h _ ?_
  simp [go_sem]
  exact Upd.refl _ _
theorem drop_no {w : World} {v : Value} (h : NilH w v) (o : Int) :
    CallP Try.prog 29 #[v, .int .i64 o] w (fun r w' => r = .bool false ∧ Upd noB w w') := by
  refine call_den (args := [_, _]) Try.func29 rfl rfl (by simp [Try.ntmps29]) ?_
  simp [go_sem]
  refine off_no h _ ?_
  simp [go_sem]
  exact Upd.refl _ _
theorem level_no {w : World} {v : Value} (h : NilH w v) (o : Int) :
    CallP Try.prog 19 #[v, .int .i64 o] w (fun r w' => r = .int .u8 0 ∧ Upd noB w w') := by
  refine call_den (args := [_, _]) Try.func19 rfl rfl (by simp [Try.ntmps19]) ?_
  simp [go_sem]
  refine off_no h _ ?_
  simp [go_sem]
  exact Upd.refl _ _
theorem all_no {w : World} {v : Value} (h : NilH w v) :
    CallP Try.prog 13 #[v] w (fun r w' => r = .slice none 0 0 ∧ Upd noB w w') := by
  refine call_den (args := [_]) Try.func13 rfl rfl (by simp [Try.ntmps13]) ?_
  simp [go_sem]
  refine off_no h _ ?_
  simp [go_sem]
  exact Upd.refl _ _
theorem late_no {w : World} {v : Value} (h : NilH w v) (tick : Int) :
    CallP Try.prog 24 #[v, .int .i64 tick] w (fun r w' => r = .slice none 0 0 ∧ Upd noB w w') := by
  refine call_den (args := [_, _]) Try.func24 rfl rfl (by simp [Try.ntmps24]) ?_
  simp [go_sem]
  refine off_no (h.keep (by repeat (first | exact Upd.refl _ _ | refine Upd.alloc ?_ _ | refine Upd.drew ?_ | refine Upd.drewN ?_ _ | refine Upd.setB ?_ _ _ (fun h => absurd h (by omega))))) _ ?_
  simp [go_sem]
  exact (by repeat (first | exact Upd.refl _ _ | refine Upd.alloc ?_ _ | refine Upd.drew ?_ | refine Upd.drewN ?_ _ | refine Upd.setB ?_ _ _ (fun h => absurd h (by omega))))
theorem must_no {w : World} {v : Value} (h : NilH w v) (node o why : Int) :
    CallP Try.prog 14 #[v, .int .i64 node, .int .i64 o, .int .u8 why] w (fun r w' => r = .slice none 0 0 ∧ Upd noB w w') := by
  refine call_den (args := [_, _, _, _]) Try.func14 rfl rfl (by simp [Try.ntmps14]) ?_
  simp [go_sem]
  refine off_no (h.keep (by repeat (first | exact Upd.refl _ _ | refine Upd.alloc ?_ _ | refine Upd.drew ?_ | refine Upd.drewN ?_ _ | refine Upd.setB ?_ _ _ (fun h => absurd h (by omega))))) _ ?_
  simp [go_sem]
  exact (by repeat (first | exact Upd.refl _ _ | refine Upd.alloc ?_ _ | refine Upd.drew ?_ | refine Upd.drewN ?_ _ | refine Upd.setB ?_ _ _ (fun h => absurd h (by omega))))
theorem must_other {w : World} {hb mb : Nat} {E : List (HV × Nat)} (R : HoldsRep w hb mb E) (node o why : Int) (hw : ¬ (why = 1 ∨ why = 2 ∨ why = 3)) :
    CallP Try.prog 14 #[ptrOf hb, .int .i64 node, .int .i64 o, .int .u8 why] w (fun r w' => r = .slice none 0 0 ∧ Upd noB w w') := by
  have h1 : why ≠ 1 := fun e => hw (Or.inl e)
  have h2 : why ≠ 2 := fun e => hw (Or.inr (Or.inl e))
  have h3 : why ≠ 3 := fun e => hw (Or.inr (Or.inr e))
  have hz := Try.zeroValue5
  refine call_den (args := [_, _, _, _]) Try.func14 rfl rfl (by simp [Try.ntmps14]) ?_
  simp [go_sem]
  refine off_any hb mb _ (by rw [heap_alloc, heap_alloc, if_neg, if_neg]; exact R.hd; exact (old_ne R.hd).2.1; simp; exact (old_ne R.hd).2.2 1) _ ?_
  simp [go_sem, h1, h2, h3]
  exact (by repeat (first | exact Upd.refl _ _ | refine Upd.alloc ?_ _ | refine Upd.drew ?_ | refine Upd.drewN ?_ _ | refine Upd.setB ?_ _ _ (fun h => absurd h (by omega))))
end Go.Proofs.Ytnelmicecaggoaa
