import Derived.Test.YtnelmicecaggoaaHoldR
namespace Go.Proofs.Ytnelmicecaggoaa
open Go.Eng
set_option linter.unusedSimpArgs false
set_option linter.unusedVariables false
set_option maxRecDepth 100000
/-! ### Must, Late -/
def brkL (to : Int) (x : HV) : List Value := [.int .i64 x.opn, .int .u8 to]
def RMustI (rb : Nat) (L : List HV) (p : HV → Bool) (node o to : Int) (w : World) (m : Nat) (ρ : Env) (w' : World) : Prop :=
  ∃ (k : Nat) (v : Value), m = L.length - k ∧ k ≤ L.length ∧ ρ 0 = ptrOf rb ∧ ρ 1 = .int .i64 node ∧ ρ 2 = .int .i64 o ∧ ρ 9 = .int .u8 to ∧ ρ 11 = .int .i64 k ∧ ρ 10 = v ∧ Upd noB w w' ∧
    w'.ownsRow w.heap.size 40 2 v ((L.take k).filter p).length (((L.take k).filter p).flatMap (brkL to))
theorem filter_take_len (L : List HV) (p : HV → Bool) (k : Nat) : ((L.take k).filter p).length ≤ k := Nat.le_trans (List.length_filter_le _ _) (List.length_take_le _ _)
theorem refMust_any {w : World} {base rb : Nat} {v : Value} {L : List HV} (R : RefRep w base rb v L) (hlen : L.length ≤ 1048576) (node o why : Int) (hwhy : why = 1 ∨ why = 2 ∨ why = 3) :
    CallP Try.prog 22 #[ptrOf rb, .int .i64 node, .int .i64 o, .int .u8 why] w (fun r w' => Upd noB w w' ∧
      w'.ownsRow w.heap.size 40 2 r (L.filter (mustP node o (toOf why))).length ((L.filter (mustP node o (toOf why))).flatMap (brkL (toOf why)))) := by
  obtain ⟨q, cap, rfl⟩ := R.len
  obtain ⟨to, hto0⟩ : ∃ to, to = toOf why := ⟨_, rfl⟩
  rw [← hto0]
  refine call_den (args := [_, _, _, _]) Try.func22 rfl rfl (by simp [Try.ntmps22]) ?_
  rcases hwhy with rfl | rfl | rfl
  all_goals
    simp [toOf] at hto0
    simp [go_sem]
    refine den_loop (RMustI rb L (mustP node o to) node o to w) L.length ?_ ?_
    · refine ⟨0, _, rfl, Nat.zero_le _, by simp [go_sem], by simp [go_sem], by simp [go_sem], by simp [go_sem, hto0], by simp [go_sem], rfl, Upd.refl _ _, ?_⟩
      simp [go_sem]
      exact World.ownsRow_nil _ _ _ _
    · clear hto0
      rintro m ρ w' ⟨k, v, rfl, hk, h0, h1, h2, h9, h11, h10, hu, own⟩
      have R' := R.keep0 hu
      have rd := R'.rd
      by_cases hlt : k < L.length
      · obtain ⟨b, oo, c, _, hi, hb, hsz, ⟨c0, c1, c2, _⟩, _⟩ := R'.at k hlt
        have ht : L.take (k + 1) = L.take k ++ [L[k]] := List.take_succ_eq_append_getElem hlt
        have hfl := filter_take_len L (mustP node o to) k
        have hwr : IntKind.i64.wrap ((k : Int) + 1) = ((k + 1 : Nat) : Int) := wrap64_id (by omega) (by omega)
        generalize L[k] = x at *
        cases hp : mustP node o to x with
        | true =>
          have hf : (L.take (k + 1)).filter (mustP node o to) = (L.take k).filter (mustP node o to) ++ [x] := by rw [ht, List.filter_append]; simp [hp]
          simp only [mustP, Bool.and_eq_true, decide_eq_true_eq] at hp
          obtain ⟨g1, g2, g3⟩ := hp
          have hbs := fun w K => slBreak.build1K (P := Try.prog) (w := w) (.agg #[.int .i64 x.opn, .int .u8 to]) rfl (by decide) K
          have own2 := own.alloc (.cells #[.int .i64 x.opn, .int .u8 to] 40)
          obtain ⟨v', w5, hap, own5, hgr, _⟩ := slBreak.append_all own2 34 (b := w'.heap.size) (m := 1) (c := 1) (cs := #[.int .i64 x.opn, .int .u8 to]) (by rw [heap_alloc, if_pos rfl]) rfl (by simp [Value.oneCell']) (by omega) (by unfold maxLen; omega) (by have := hu.size; simp; omega)
          simp [go_sem, h0, h1, h2, h9, h10, h11, rd, hlt, hi, hb, c0, c1, c2, g1, g2, g3, hbs, K_append_ok _ _ _ _ hap]
          refine ⟨L.length - (k + 1), by omega, k + 1, _, rfl, by omega, by simp [go_sem, h0], by simp [go_sem, h1], by simp [go_sem, h2], by simp [go_sem, h9], by simp [go_sem, hwr], rfl, upd_append own (hu.alloc _) (Nat.le_refl _) hgr, ?_⟩
          rw [hf]
          simpa [go_sem, brkL] using own5
        | false =>
          have hf : (L.take (k + 1)).filter (mustP node o to) = (L.take k).filter (mustP node o to) := by rw [ht, List.filter_append]; simp [hp]
          have fin : ∀ ρ' : Env, ρ' 0 = ptrOf rb → ρ' 1 = .int .i64 node → ρ' 2 = .int .i64 o → ρ' 9 = .int .u8 to → ρ' 11 = .int .i64 (IntKind.i64.wrap ((k : Int) + 1)) → ρ' 10 = v → ∃ m', m' < L.length - k ∧ RMustI rb L (mustP node o to) node o to w m' ρ' w' := by
            intro ρ' e0 e1 e2 e3 e4 e5
            exact ⟨L.length - (k + 1), by omega, k + 1, v, rfl, by omega, e0, e1, e2, e3, by rw [e4, hwr], e5, hu, by rw [hf]; exact own⟩
          by_cases g1 : x.node = node
          · by_cases g2 : x.opn = o
            · simp [go_sem, h0, h1, h2, h9, h10, h11, rd, hlt, hi, hb, c0, c1, c2, g1, g2]
              apply fin <;> simp [go_sem, h0, h1, h2, h9, h10, h11]
            · have g3 : ¬ to < x.level := by
                intro g3; simp [mustP, g1, g2, g3] at hp
              simp [go_sem, h0, h1, h2, h9, h10, h11, rd, hlt, hi, hb, c0, c1, c2, g1, g2, g3]
              apply fin <;> simp [go_sem, h0, h1, h2, h9, h10, h11]
          · simp [go_sem, h0, h1, h2, h9, h10, h11, rd, hlt, hi, hb, c0, c1, c2, g1]
            apply fin <;> simp [go_sem, h0, h1, h2, h9, h10, h11]
      · have hk' : k = L.length := by omega
        subst hk'
        simp [go_sem, h0, h1, h2, h9, h10, h11, rd]
        rw [List.take_length] at own
        exact ⟨hu, own⟩
theorem refMust_other {w : World} (x : Value) (node o why : Int) (hw : ¬ (why = 1 ∨ why = 2 ∨ why = 3)) :
    CallP Try.prog 22 #[x, .int .i64 node, .int .i64 o, .int .u8 why] w (fun r w' => r = .slice none 0 0 ∧ w' = w) := by
  have h1 : why ≠ 1 := fun e => hw (Or.inl e)
  have h2 : why ≠ 2 := fun e => hw (Or.inr (Or.inl e))
  have h3 : why ≠ 3 := fun e => hw (Or.inr (Or.inr e))
  refine call_den (args := [_, _, _, _]) Try.func22 rfl rfl (by simp [Try.ntmps22]) ?_
  simp [go_sem, h1, h2, h3]
def opnL (x : HV) : Value := .int .i64 x.opn
def RLateI (rb : Nat) (L : List HV) (tick : Int) (w : World) (m : Nat) (ρ : Env) (w' : World) : Prop :=
  ∃ (k : Nat) (v : Value), m = L.length - k ∧ k ≤ L.length ∧ ρ 0 = ptrOf rb ∧ ρ 1 = .int .i64 tick ∧ ρ 6 = .int .i64 k ∧ ρ 5 = v ∧ Upd noB w w' ∧
    w'.ownsRow w.heap.size 3 1 v ((L.take k).filter (lateP tick)).length (((L.take k).filter (lateP tick)).map opnL)
theorem refLate_any {w : World} {base rb : Nat} {v : Value} {L : List HV} (R : RefRep w base rb v L) (hlen : L.length ≤ 1048576) (tick : Int) :
    CallP Try.prog 25 #[ptrOf rb, .int .i64 tick] w (fun r w' => Upd noB w w' ∧
      w'.ownsRow w.heap.size 3 1 r (L.filter (lateP tick)).length ((L.filter (lateP tick)).map opnL)) := by
  obtain ⟨q, cap, rfl⟩ := R.len
  refine call_den (args := [_, _]) Try.func25 rfl rfl (by simp [Try.ntmps25]) ?_
  simp [go_sem]
  refine den_loop (RLateI rb L tick w) L.length ?_ ?_
  · refine ⟨0, _, rfl, Nat.zero_le _, by simp [go_sem], by simp [go_sem], by simp [go_sem], rfl, Upd.refl _ _, ?_⟩
    simp [go_sem]
    exact World.ownsRow_nil _ _ _ _
  · rintro m ρ w' ⟨k, v, rfl, hk, h0, h1, h6, h5, hu, own⟩
    have R' := R.keep0 hu
    have rd := R'.rd
    by_cases hlt : k < L.length
    · obtain ⟨b, oo, c, _, hi, hb, hsz, ⟨_, c1, _, c3, _, c5⟩, _⟩ := R'.at k hlt
      have ht : L.take (k + 1) = L.take k ++ [L[k]] := List.take_succ_eq_append_getElem hlt
      have hfl := filter_take_len L (lateP tick) k
      have hwr : IntKind.i64.wrap ((k : Int) + 1) = ((k + 1 : Nat) : Int) := wrap64_id (by omega) (by omega)
      generalize L[k] = x at *
      cases hp : lateP tick x with
      | true =>
        have hf : (L.take (k + 1)).filter (lateP tick) = (L.take k).filter (lateP tick) ++ [x] := by rw [ht, List.filter_append]; simp [hp]
        simp only [lateP, Bool.and_eq_true, decide_eq_true_eq] at hp
        obtain ⟨g1, g2, g3⟩ := hp
        have hbs := slInt.build1 (w := w') (.int .i64 x.opn) rfl (by decide)
        have own2 := own.alloc (.cells #[.int .i64 x.opn] 3)
        obtain ⟨v', w5, hap, own5, hgr, _⟩ := slInt.append_all own2 55 (b := w'.heap.size) (m := 1) (c := 1) (cs := #[.int .i64 x.opn]) (by rw [heap_alloc, if_pos rfl]) rfl (by simp [Value.oneCell']) (by omega) (by unfold maxLen; omega) (by have := hu.size; simp; omega)
        simp [go_sem, h0, h1, h5, h6, rd, hlt, hi, hb, c1, c3, c5, g1, g2, g3, K_buildSlice_ok _ _ _ _ hbs, K_append_ok _ _ _ _ hap]
        refine ⟨L.length - (k + 1), by omega, k + 1, _, rfl, by omega, by simp [go_sem, h0], by simp [go_sem, h1], by simp [go_sem, hwr], rfl, upd_append own (hu.alloc _) (Nat.le_refl _) hgr, ?_⟩
        rw [hf]
        simpa [go_sem, opnL] using own5
      | false =>
        have hf : (L.take (k + 1)).filter (lateP tick) = (L.take k).filter (lateP tick) := by rw [ht, List.filter_append]; simp [hp]
        have fin : ∀ ρ' : Env, ρ' 0 = ptrOf rb → ρ' 1 = .int .i64 tick → ρ' 6 = .int .i64 (IntKind.i64.wrap ((k : Int) + 1)) → ρ' 5 = v → ∃ m', m' < L.length - k ∧ RLateI rb L tick w m' ρ' w' := by
          intro ρ' e0 e1 e4 e5
          exact ⟨L.length - (k + 1), by omega, k + 1, v, rfl, by omega, e0, e1, by rw [e4, hwr], e5, hu, by rw [hf]; exact own⟩
        cases g1 : x.brk with
        | false =>
          rw [g1] at c3
          simp [go_sem, h0, h1, h5, h6, rd, hlt, hi, hb, c1, c3, c5]
          apply fin <;> simp [go_sem, h0, h1, h5, h6]
        | true =>
          rw [g1] at c3
          by_cases g2 : x.since ≤ tick
          · have g3 : ¬ 3 ≤ IntKind.i64.wrap (tick - x.since) := by
              intro g3; simp [lateP, g1, g2, g3] at hp
            simp [go_sem, h0, h1, h5, h6, rd, hlt, hi, hb, c1, c3, c5, g2, g3]
            apply fin <;> simp [go_sem, h0, h1, h5, h6]
          · simp [go_sem, h0, h1, h5, h6, rd, hlt, hi, hb, c1, c3, c5, g2]
            apply fin <;> simp [go_sem, h0, h1, h5, h6]
    · have hk' : k = L.length := by omega
      subst hk'
      simp [go_sem, h0, h1, h5, h6, rd]
      rw [List.take_length] at own
      exact ⟨hu, own⟩
end Go.Proofs.Ytnelmicecaggoaa
