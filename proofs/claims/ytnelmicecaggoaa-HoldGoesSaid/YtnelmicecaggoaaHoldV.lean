import Derived.Test.YtnelmicecaggoaaHoldU
namespace Go.Proofs.Ytnelmicecaggoaa
open Go.Eng
set_option linter.unusedSimpArgs false
set_option linter.unusedVariables false
set_option maxRecDepth 100000
theorem cut6 {c : Array Value} {o : Nat} {a0 a1 a2 a3 a4 a5 : Value} (h0 : c[o]? = some a0) (h1 : c[o + 1]? = some a1) (h2 : c[o + 2]? = some a2) (h3 : c[o + 3]? = some a3) (h4 : c[o + 4]? = some a4) (h5 : c[o + 5]? = some a5) :
    (c.toList.drop o).take 6 = [a0, a1, a2, a3, a4, a5] := by
  apply List.ext_getElem?
  intro j
  rw [List.getElem?_take]
  by_cases hj : j < 6
  · rw [if_pos hj, List.getElem?_drop, Array.getElem?_toList]
    rcases lt6 hj with rfl | rfl | rfl | rfl | rfl | rfl <;> simp [*]
  · rw [if_neg hj, List.getElem?_eq_none]
    simp; omega
def above (L : List HV) (o : Int) : Bool := L.any fun x => decide (o < x.opn)
def insL (L : List HV) (o : Int) (x : HV) : List HV := (L.filter fun y => decide (y.opn ≤ o)) ++ (x :: L.filter fun y => decide (o < y.opn))
def insK (L : List HV) (o : Int) (x : HV) : List HV := if above L o then insL L o x else L
theorem above_snoc (l : List HV) (y : HV) (o : Int) : above (l ++ [y]) o = (above l o || decide (o < y.opn)) := by unfold above; simp
theorem low_of {l : List HV} {o : Int} (h : above l o = false) : (l.filter fun y => decide (y.opn ≤ o)) = l ∧ (l.filter fun y => decide (o < y.opn)) = [] := by
  have h' : ∀ y, y ∈ l → ¬ o < y.opn := fun y hy hlt => by
    have : above l o = true := List.any_eq_true.2 ⟨y, hy, by simpa using hlt⟩
    rw [h] at this; cases this
  exact ⟨List.filter_eq_self.2 fun y hy => by have := h' y hy; simp; omega, List.filter_eq_nil_iff.2 fun y hy => by simpa using h' y hy⟩
theorem insK_low {l : List HV} {o : Int} (x : HV) (h : above l o = false) : insK l o x = l := by unfold insK; rw [h]; rfl
theorem insK_first {l : List HV} {o : Int} (x y : HV) (h : above l o = false) (hy : o < y.opn) : insK (l ++ [y]) o x = l ++ [x] ++ [y] := by
  unfold insK
  rw [above_snoc, h]
  simp only [Bool.false_or, hy, decide_true, if_true]
  unfold insL
  rw [List.filter_append, List.filter_append, (low_of h).1, (low_of h).2]
  have : ¬ y.opn ≤ o := by omega
  simp [hy, this]
theorem insK_more {l : List HV} {o : Int} (x y : HV) (h : above l o = true) (hy : o < y.opn) : insK (l ++ [y]) o x = insK l o x ++ [y] := by
  unfold insK
  rw [above_snoc, h]
  simp only [Bool.true_or, if_true]
  unfold insL
  rw [List.filter_append, List.filter_append]
  have : ¬ y.opn ≤ o := by omega
  simp [hy, this]
theorem insK_on {l : List HV} {o : Int} (x y : HV) (h : above l o = false) (hy : ¬ o < y.opn) : insK (l ++ [y]) o x = insK l o x ++ [y] := by
  rw [insK_low x h]
  unfold insK
  rw [above_snoc, h]
  simp [hy]
theorem insK_all (L : List HV) (o : Int) (x : HV) : (if above L o then insK L o x else insK L o x ++ [x]) = insL L o x := by
  cases h : above L o with
  | true => simp [insK, h]
  | false =>
    simp only [Bool.false_eq_true, if_false, insK_low x h]
    unfold insL
    rw [(low_of h).1, (low_of h).2]
def giveLv (L : List HV) (node want others : Int) (locked : Bool) : Int :=
  if locked then 0 else if others = 0 ∧ greatL L node = 0 then want else if 1 ≤ want ∧ greatL L node ≤ 1 then 1 else 0
theorem refGive_bad {w : World} (x : Value) (node o want others : Int) (locked : Bool) (h : 3 < want ∨ node < 1 ∨ o < 1 ∨ others < 0) :
    CallP Try.prog 35 #[x, .int .i64 node, .int .i64 o, .int .u8 want, .int .i64 others, .bool locked] w (fun r w' => r = .tuple #[.int .u8 0, .int .i64 2] ∧ w' = w) := by
  refine call_den (args := [_, _, _, _, _, _]) Try.func35 rfl rfl (by simp [Try.ntmps35]) ?_
  by_cases h1 : 3 < want
  · simp [go_sem, h1]
  · by_cases h2 : node < 1
    · simp [go_sem, h1, h2]
    · by_cases h3 : o < 1
      · simp [go_sem, h1, h2, h3]
      · have h4 : others < 0 := by omega
        simp [go_sem, h1, h2, h3, h4]
theorem refGive_twice {w : World} {base rb : Nat} {v : Value} {L : List HV} (R : RefRep w base rb v L) (hlen : L.length ≤ 1048576) (node o want others : Int) (locked : Bool) (h : ¬ (3 < want ∨ node < 1 ∨ o < 1 ∨ others < 0)) (hx : ∃ x, x ∈ L ∧ x.opn = o) :
    CallP Try.prog 35 #[ptrOf rb, .int .i64 node, .int .i64 o, .int .u8 want, .int .i64 others, .bool locked] w (fun r w' => r = .tuple #[.int .u8 0, .int .i64 8] ∧ w' = w) := by
  have h1 : ¬ 3 < want := by omega
  have h2 : ¬ node < 1 := by omega
  have h3 : ¬ o < 1 := by omega
  have h4 : ¬ others < 0 := by omega
  refine call_den (args := [_, _, _, _, _, _]) Try.func35 rfl rfl (by simp [Try.ntmps35]) ?_
  simp [go_sem, h1, h2, h3, h4]
  refine CallP.mono (refAt_any R hlen o) ?_
  rintro r w' ⟨⟨i, hi, ho, rfl⟩ | ⟨hno, rfl⟩, rfl⟩
  · simp [go_sem]
  · obtain ⟨x, hx, ho⟩ := hx
    exact absurd ho (hno x hx)
def RGiveI (rb : Nat) (L : List HV) (x : HV) (w : World) (m : Nat) (ρ : Env) (w' : World) : Prop :=
  ∃ (k : Nat) (v : Value), m = L.length - k ∧ k ≤ L.length ∧ (ρ 0 = ptrOf rb ∧ ρ 1 = .int .i64 x.node ∧ ρ 2 = .int .i64 x.opn ∧ ρ 14 = .int .u8 x.level) ∧ ρ 17 = .int .i64 k ∧ ρ 16 = .bool (above (L.take k) x.opn) ∧ ρ 15 = v ∧ Upd noB w w' ∧
    w'.ownsRow w.heap.size 32 6 v (insK (L.take k) x.opn x).length ((insK (L.take k) x.opn x).flatMap HV.row)
theorem insL_len (L : List HV) (o : Int) (x : HV) : (insL L o x).length ≤ L.length + L.length + 1 := by
  unfold insL
  have h1 := List.length_filter_le (fun y : HV => decide (y.opn ≤ o)) L
  have h2 := List.length_filter_le (fun y : HV => decide (o < y.opn)) L
  simp only [List.length_append, List.length_cons]
  omega
theorem insK_len (L : List HV) (o : Int) (x : HV) : (insK L o x).length ≤ L.length + L.length + 1 := by
  unfold insK
  split
  · exact insL_len L o x
  · omega
def RGiveOut (w : World) (base rb : Nat) (v : Value) (L : List HV) (o : Int) (x : HV) (r : Value) (w' : World) : Prop :=
  r = .tuple #[.int .u8 x.level, .int .i64 0] ∧ ∃ v', RefRep w' base rb v' (insL L o x) ∧ Upd (fun b => b = rb) w w' ∧ ∀ b, v'.ownBlock = some b → w.heap.size ≤ b
set_option maxHeartbeats 4000000 in
theorem refGive_any {w : World} {base rb : Nat} {v : Value} {L : List HV} (R : RefRep w base rb v L) (hs : Srt L) (hlen : L.length ≤ 1000) (hbase : base ≤ w.heap.size) (node o want others : Int) (locked : Bool) (h : ¬ (3 < want ∨ node < 1 ∨ o < 1 ∨ others < 0)) (hno : ∀ x, x ∈ L → x.opn ≠ o) :
    CallP Try.prog 35 #[ptrOf rb, .int .i64 node, .int .i64 o, .int .u8 want, .int .i64 others, .bool locked] w (RGiveOut w base rb v L o ⟨node, o, giveLv L node want others locked, false, 0, 0⟩) := by
  obtain ⟨q, cap, rfl⟩ := R.len
  have h1 : ¬ 3 < want := by omega
  have h2 : ¬ node < 1 := by omega
  have h3 : ¬ o < 1 := by omega
  have h4 : ¬ others < 0 := by omega
  refine call_den (args := [_, _, _, _, _, _]) Try.func35 rfl rfl (by simp [Try.ntmps35]) ?_
  simp [go_sem, h1, h2, h3, h4]
  refine CallP.mono (refAt_any R (by omega) o) ?_
  rintro r w' ⟨⟨i, hi, ho, rfl⟩ | ⟨_, rfl⟩, rfl⟩
  · exact absurd ho (hno _ (List.getElem_mem hi))
  · obtain ⟨lv, hlv⟩ : ∃ lv, lv = giveLv L node want others locked := ⟨_, rfl⟩
    rw [← hlv]
    have hgr := fun (k : Value → World → Prop) (hk : k (.int .u8 (greatL L node)) w') => CallP.mono (k' := k) (refGreatest_any R (by omega) node) (by rintro r w2 ⟨rfl, rfl⟩; exact hk)
    have fin : ∀ (K : Env → World → Prop) (ρ : Env), True → True := fun _ _ _ => trivial
    cases locked with
    | true =>
      have e : lv = 0 := by rw [hlv]; rfl
      subst e
      clear hlv hgr
      simp [go_sem]
      refine den_loop (RGiveI rb L ⟨node, o, 0, false, 0, 0⟩ w') L.length ?_ ?_
      · refine ⟨0, _, rfl, Nat.zero_le _, ⟨by simp [go_sem], by simp [go_sem], by simp [go_sem], by simp [go_sem]⟩, by simp [go_sem], by simp [go_sem, above], rfl, Upd.refl _ _, ?_⟩
        simp [go_sem, insK, above]
        exact World.ownsRow_nil _ _ _ _
      · rintro m ρ w2 ⟨k, v, rfl, hk, ⟨e0, e1, e2, e14⟩, e17, e16, e15, hu, own⟩
        have R2 := R.keep0 hu
        have rd := R2.rd
        simp only at e1 e2 e14 e16 own
        have hl := insK_len (L.take k) o ⟨node, o, 0, false, 0, 0⟩
        rw [List.length_take, Nat.min_eq_left hk] at hl
        have hsz2 := hu.size
        have hbs := fun w K => slH.build1K (P := Try.prog) (w := w) (.agg #[.int .i64 node, .int .i64 o, .int .u8 0, .bool false, .int .u8 0, .int .i64 0]) rfl (by decide) K
        obtain ⟨v1, w3, hap1, own3, hg1, _⟩ := slH.append_all (own.alloc (.cells #[.int .i64 node, .int .i64 o, .int .u8 0, .bool false, .int .u8 0, .int .i64 0] 32)) 29 (b := w2.heap.size) (m := 1) (c := 1) (cs := #[.int .i64 node, .int .i64 o, .int .u8 0, .bool false, .int .u8 0, .int .i64 0]) (by rw [heap_alloc, if_pos rfl]) rfl (by simp [Value.oneCell']) (by omega) (by unfold maxLen; omega) (by simp; omega)
        have hu3 : Upd noB w' w3 := upd_append own (hu.alloc _) (Nat.le_refl _) hg1
        by_cases hlt : k < L.length
        · obtain ⟨b, oo, c, _, hi, hb, hsz, ⟨c0, c1, c2, c3, c4, c5⟩, _⟩ := R2.at k hlt
          have hrow := cut6 c0 c1 c2 c3 c4 c5
          have R3 := R.keep0 hu3
          have rd3 := R3.rd
          obtain ⟨b', oo', c', _, hi', hb', hsz', ⟨d0, d1, d2, d3, d4, d5⟩, _⟩ := R3.at k hlt
          have hrow' := cut6 d0 d1 d2 d3 d4 d5
          have ht : L.take (k + 1) = L.take k ++ [L[k]] := List.take_succ_eq_append_getElem hlt
          have habv : above (L.take k) o = true → o < L[k].opn := by
            intro ha
            obtain ⟨z, hz, hz2⟩ := List.any_eq_true.1 ha
            obtain ⟨j, hj, rfl⟩ := List.getElem_of_mem hz
            rw [List.length_take] at hj
            rw [List.getElem_take] at hz2
            have := List.pairwise_iff_getElem.1 hs j k (by omega) hlt (by omega)
            simp at hz2
            omega
          have hbl := (old_ne hb).1
          have hwr : IntKind.i64.wrap ((k : Int) + 1) = ((k + 1 : Nat) : Int) := wrap64_id (by omega) (by omega)
          generalize L[k] = y at *
          have hbs2 := fun w K => slH.build1K (P := Try.prog) (w := w) (.agg #[.int .i64 y.node, .int .i64 y.opn, .int .u8 y.level, .bool y.brk, .int .u8 y.to, .int .i64 y.since]) rfl (by decide) K
          obtain ⟨v2, w4, hap2, own4, hg2, _⟩ := slH.append_all (own.alloc (.cells #[.int .i64 y.node, .int .i64 y.opn, .int .u8 y.level, .bool y.brk, .int .u8 y.to, .int .i64 y.since] 32)) 29 (b := w2.heap.size) (m := 1) (c := 1) (cs := #[.int .i64 y.node, .int .i64 y.opn, .int .u8 y.level, .bool y.brk, .int .u8 y.to, .int .i64 y.since]) (by rw [heap_alloc, if_pos rfl]) rfl (by simp [Value.oneCell']) (by omega) (by unfold maxLen; omega) (by simp; omega)
          have hu4 : Upd noB w' w4 := upd_append own (hu.alloc _) (Nat.le_refl _) hg2
          have hyr : y.row = [.int .i64 y.node, .int .i64 y.opn, .int .u8 y.level, .bool y.brk, .int .u8 y.to, .int .i64 y.since] := rfl
          cases ha : above (L.take k) o with
          | true =>
            have hy := habv ha
            rw [ha] at e16
            have hin := insK_more (l := L.take k) (o := o) ⟨node, o, 0, false, 0, 0⟩ y ha hy
            rw [← ht] at hin
            have hab : above (L.take (k + 1)) o = true := by rw [ht, above_snoc, ha]; rfl
            simp [go_sem, e0, e1, e2, e14, e15, e16, e17, rd, hlt, hi, hb, hsz, hrow, hbs2, K_append_ok _ _ _ _ hap2]
            refine ⟨L.length - (k + 1), by omega, k + 1, _, rfl, by omega, ⟨by simp [go_sem, e0], by simp [go_sem, e1], by simp [go_sem, e2], by simp [go_sem, e14]⟩, by simp [go_sem, hwr], by simp [go_sem, e16, hab], rfl, hu4, ?_⟩
            simp only [hin, List.length_append, List.length_singleton, List.flatMap_append, List.flatMap_singleton, hyr]
            simpa [go_sem] using own4
          | false =>
            rw [ha] at e16
            by_cases hy : o < y.opn
            · have hin := insK_first (l := L.take k) (o := o) ⟨node, o, 0, false, 0, 0⟩ y ha hy
              rw [← ht] at hin
              have hlow := insK_low (l := L.take k) (o := o) ⟨node, o, 0, false, 0, 0⟩ ha
              have hab : above (L.take (k + 1)) o = true := by rw [ht, above_snoc, ha]; simpa using hy
              obtain ⟨v5, w5, hap5, own5, hg5, _⟩ := slH.append_all (own3.alloc (.cells #[.int .i64 y.node, .int .i64 y.opn, .int .u8 y.level, .bool y.brk, .int .u8 y.to, .int .i64 y.since] 32)) 29 (b := w3.heap.size) (m := 1) (c := 1) (cs := #[.int .i64 y.node, .int .i64 y.opn, .int .u8 y.level, .bool y.brk, .int .u8 y.to, .int .i64 y.since]) (by rw [heap_alloc, if_pos rfl]) rfl (by simp [Value.oneCell']) (by omega) (by unfold maxLen; omega) (by have := hu3.size; simp; omega)
              have hu5 : Upd noB w' w5 := upd_append own3 (hu3.alloc _) (Nat.le_refl _) hg5
              simp [go_sem, e0, e1, e2, e14, e15, e16, e17, rd, hlt, hi, hb, c1, hy, hbs, K_append_ok _ _ _ _ hap1, rd3, hi', hb', hsz', hrow', hbs2, K_append_ok _ _ _ _ hap5]
              refine ⟨L.length - (k + 1), by omega, k + 1, _, rfl, by omega, ⟨by simp [go_sem, e0], by simp [go_sem, e1], by simp [go_sem, e2], by simp [go_sem, e14]⟩, by simp [go_sem, hwr], by simp [go_sem, hab], rfl, hu5, ?_⟩
              rw [hlow] at own5
              simp only [hin, List.length_append, List.length_singleton, List.flatMap_append, List.flatMap_singleton, hyr, HV.row, HV.cells]
              simpa [go_sem] using own5
            · have hin := insK_on (l := L.take k) (o := o) ⟨node, o, 0, false, 0, 0⟩ y ha hy
              rw [← ht] at hin
              have hab : above (L.take (k + 1)) o = false := by rw [ht, above_snoc, ha]; simpa using hy
              simp [go_sem, e0, e1, e2, e14, e15, e16, e17, rd, hlt, hi, hb, hsz, hrow, hbs2, K_append_ok _ _ _ _ hap2, c1, hy]
              refine ⟨L.length - (k + 1), by omega, k + 1, _, rfl, by omega, ⟨by simp [go_sem, e0], by simp [go_sem, e1], by simp [go_sem, e2], by simp [go_sem, e14]⟩, by simp [go_sem, hwr], by simp [go_sem, e16, hab], rfl, hu4, ?_⟩
              simp only [hin, List.length_append, List.length_singleton, List.flatMap_append, List.flatMap_singleton, hyr]
              simpa [go_sem] using own4
        · have hk' : k = L.length := by omega
          subst hk'
          have hfin := insK_all L o ⟨node, o, 0, false, 0, 0⟩
          simp only [List.take_length] at own hap1 own3 e16
          have hne : ∀ (v : Value) (n : Nat) (xs : List Value) (W : World), W.ownsRow w'.heap.size 32 6 v n xs → (∀ b, v.ownBlock = some b → w'.heap.size ≤ b) ∧ (∀ b, v.ownBlock = some b → b ≠ rb) := fun v n xs W h =>
            ⟨fun b hb => (h.lt b hb).1, fun b hb e => by have := (h.lt b hb).1; have := (old_ne R.rd).1; omega⟩
          cases ha : above L o with
          | true =>
            rw [ha] at e16 hfin
            simp only [if_true] at hfin
            rw [hfin] at own
            have hone := one_of_own own
            simp [go_sem, e0, e1, e2, e14, e15, e16, e17, rd, hone]
            refine ⟨rfl, v, ⟨by simp [go_sem, rd], own_keep (own_base own hbase) ((Upd.refl (fun b => b = rb) w2).setB _ _ (fun _ => rfl)) (hne _ _ _ _ own).2⟩, (hu.mono (fun _ _ h => h.elim)).setB _ _ (fun _ => rfl), (hne _ _ _ _ own).1⟩
          | false =>
            rw [ha] at e16 hfin
            simp only [Bool.false_eq_true, if_false] at hfin
            have rd3 := (R.keep0 hu3).rd
            have hone := one_of_own own3
            simp [go_sem, e0, e1, e2, e14, e15, e16, e17, rd, hbs, K_append_ok _ _ _ _ hap1, rd3, hone]
            have own3' : w3.ownsRow w'.heap.size 32 6 v1 (insL L o ⟨node, o, 0, false, 0, 0⟩).length ((insL L o ⟨node, o, 0, false, 0, 0⟩).flatMap HV.row) := by
              rw [← hfin]
              simp only [List.length_append, List.length_singleton, List.flatMap_append, List.flatMap_singleton, HV.row, HV.cells]
              simpa [go_sem, HV.row, HV.cells] using own3
            refine ⟨rfl, v1, ⟨by simp [go_sem, rd3], own_keep (own_base own3' hbase) ((Upd.refl (fun b => b = rb) w3).setB _ _ (fun _ => rfl)) (hne _ _ _ _ own3').2⟩, (hu3.mono (fun _ _ h => h.elim)).setB _ _ (fun _ => rfl), (hne _ _ _ _ own3').1⟩
    | false =>
      by_cases ho0 : others = 0
      · subst ho0
        simp [go_sem]
        refine hgr _ ?_
        by_cases hg0 : greatL L node = 0
        · have e : lv = want := by rw [hlv]; simp [giveLv, hg0]
          subst e
          clear hlv hgr
          simp [go_sem, hg0]
          refine den_loop (RGiveI rb L ⟨node, o, lv, false, 0, 0⟩ w') L.length ?_ ?_
          · refine ⟨0, _, rfl, Nat.zero_le _, ⟨by simp [go_sem], by simp [go_sem], by simp [go_sem], by simp [go_sem]⟩, by simp [go_sem], by simp [go_sem, above], rfl, Upd.refl _ _, ?_⟩
            simp [go_sem, insK, above]
            exact World.ownsRow_nil _ _ _ _
          · rintro m ρ w2 ⟨k, v, rfl, hk, ⟨e0, e1, e2, e14⟩, e17, e16, e15, hu, own⟩
            have R2 := R.keep0 hu
            have rd := R2.rd
            simp only at e1 e2 e14 e16 own
            have hl := insK_len (L.take k) o ⟨node, o, lv, false, 0, 0⟩
            rw [List.length_take, Nat.min_eq_left hk] at hl
            have hsz2 := hu.size
            have hbs := fun w K => slH.build1K (P := Try.prog) (w := w) (.agg #[.int .i64 node, .int .i64 o, .int .u8 lv, .bool false, .int .u8 0, .int .i64 0]) rfl (by decide) K
            obtain ⟨v1, w3, hap1, own3, hg1, _⟩ := slH.append_all (own.alloc (.cells #[.int .i64 node, .int .i64 o, .int .u8 lv, .bool false, .int .u8 0, .int .i64 0] 32)) 29 (b := w2.heap.size) (m := 1) (c := 1) (cs := #[.int .i64 node, .int .i64 o, .int .u8 lv, .bool false, .int .u8 0, .int .i64 0]) (by rw [heap_alloc, if_pos rfl]) rfl (by simp [Value.oneCell']) (by omega) (by unfold maxLen; omega) (by simp; omega)
            have hu3 : Upd noB w' w3 := upd_append own (hu.alloc _) (Nat.le_refl _) hg1
            by_cases hlt : k < L.length
            · obtain ⟨b, oo, c, _, hi, hb, hsz, ⟨c0, c1, c2, c3, c4, c5⟩, _⟩ := R2.at k hlt
              have hrow := cut6 c0 c1 c2 c3 c4 c5
              have R3 := R.keep0 hu3
              have rd3 := R3.rd
              obtain ⟨b', oo', c', _, hi', hb', hsz', ⟨d0, d1, d2, d3, d4, d5⟩, _⟩ := R3.at k hlt
              have hrow' := cut6 d0 d1 d2 d3 d4 d5
              have ht : L.take (k + 1) = L.take k ++ [L[k]] := List.take_succ_eq_append_getElem hlt
              have habv : above (L.take k) o = true → o < L[k].opn := by
                intro ha
                obtain ⟨z, hz, hz2⟩ := List.any_eq_true.1 ha
                obtain ⟨j, hj, rfl⟩ := List.getElem_of_mem hz
                rw [List.length_take] at hj
                rw [List.getElem_take] at hz2
                have := List.pairwise_iff_getElem.1 hs j k (by omega) hlt (by omega)
                simp at hz2
                omega
              have hbl := (old_ne hb).1
              have hwr : IntKind.i64.wrap ((k : Int) + 1) = ((k + 1 : Nat) : Int) := wrap64_id (by omega) (by omega)
              generalize L[k] = y at *
              have hbs2 := fun w K => slH.build1K (P := Try.prog) (w := w) (.agg #[.int .i64 y.node, .int .i64 y.opn, .int .u8 y.level, .bool y.brk, .int .u8 y.to, .int .i64 y.since]) rfl (by decide) K
              obtain ⟨v2, w4, hap2, own4, hg2, _⟩ := slH.append_all (own.alloc (.cells #[.int .i64 y.node, .int .i64 y.opn, .int .u8 y.level, .bool y.brk, .int .u8 y.to, .int .i64 y.since] 32)) 29 (b := w2.heap.size) (m := 1) (c := 1) (cs := #[.int .i64 y.node, .int .i64 y.opn, .int .u8 y.level, .bool y.brk, .int .u8 y.to, .int .i64 y.since]) (by rw [heap_alloc, if_pos rfl]) rfl (by simp [Value.oneCell']) (by omega) (by unfold maxLen; omega) (by simp; omega)
              have hu4 : Upd noB w' w4 := upd_append own (hu.alloc _) (Nat.le_refl _) hg2
              have hyr : y.row = [.int .i64 y.node, .int .i64 y.opn, .int .u8 y.level, .bool y.brk, .int .u8 y.to, .int .i64 y.since] := rfl
              cases ha : above (L.take k) o with
              | true =>
                have hy := habv ha
                rw [ha] at e16
                have hin := insK_more (l := L.take k) (o := o) ⟨node, o, lv, false, 0, 0⟩ y ha hy
                rw [← ht] at hin
                have hab : above (L.take (k + 1)) o = true := by rw [ht, above_snoc, ha]; rfl
                simp [go_sem, e0, e1, e2, e14, e15, e16, e17, rd, hlt, hi, hb, hsz, hrow, hbs2, K_append_ok _ _ _ _ hap2]
                refine ⟨L.length - (k + 1), by omega, k + 1, _, rfl, by omega, ⟨by simp [go_sem, e0], by simp [go_sem, e1], by simp [go_sem, e2], by simp [go_sem, e14]⟩, by simp [go_sem, hwr], by simp [go_sem, e16, hab], rfl, hu4, ?_⟩
                simp only [hin, List.length_append, List.length_singleton, List.flatMap_append, List.flatMap_singleton, hyr]
                simpa [go_sem] using own4
              | false =>
                rw [ha] at e16
                by_cases hy : o < y.opn
                · have hin := insK_first (l := L.take k) (o := o) ⟨node, o, lv, false, 0, 0⟩ y ha hy
                  rw [← ht] at hin
                  have hlow := insK_low (l := L.take k) (o := o) ⟨node, o, lv, false, 0, 0⟩ ha
                  have hab : above (L.take (k + 1)) o = true := by rw [ht, above_snoc, ha]; simpa using hy
                  obtain ⟨v5, w5, hap5, own5, hg5, _⟩ := slH.append_all (own3.alloc (.cells #[.int .i64 y.node, .int .i64 y.opn, .int .u8 y.level, .bool y.brk, .int .u8 y.to, .int .i64 y.since] 32)) 29 (b := w3.heap.size) (m := 1) (c := 1) (cs := #[.int .i64 y.node, .int .i64 y.opn, .int .u8 y.level, .bool y.brk, .int .u8 y.to, .int .i64 y.since]) (by rw [heap_alloc, if_pos rfl]) rfl (by simp [Value.oneCell']) (by omega) (by unfold maxLen; omega) (by have := hu3.size; simp; omega)
                  have hu5 : Upd noB w' w5 := upd_append own3 (hu3.alloc _) (Nat.le_refl _) hg5
                  simp [go_sem, e0, e1, e2, e14, e15, e16, e17, rd, hlt, hi, hb, c1, hy, hbs, K_append_ok _ _ _ _ hap1, rd3, hi', hb', hsz', hrow', hbs2, K_append_ok _ _ _ _ hap5]
                  refine ⟨L.length - (k + 1), by omega, k + 1, _, rfl, by omega, ⟨by simp [go_sem, e0], by simp [go_sem, e1], by simp [go_sem, e2], by simp [go_sem, e14]⟩, by simp [go_sem, hwr], by simp [go_sem, hab], rfl, hu5, ?_⟩
                  rw [hlow] at own5
                  simp only [hin, List.length_append, List.length_singleton, List.flatMap_append, List.flatMap_singleton, hyr, HV.row, HV.cells]
                  simpa [go_sem] using own5
                · have hin := insK_on (l := L.take k) (o := o) ⟨node, o, lv, false, 0, 0⟩ y ha hy
                  rw [← ht] at hin
                  have hab : above (L.take (k + 1)) o = false := by rw [ht, above_snoc, ha]; simpa using hy
                  simp [go_sem, e0, e1, e2, e14, e15, e16, e17, rd, hlt, hi, hb, hsz, hrow, hbs2, K_append_ok _ _ _ _ hap2, c1, hy]
                  refine ⟨L.length - (k + 1), by omega, k + 1, _, rfl, by omega, ⟨by simp [go_sem, e0], by simp [go_sem, e1], by simp [go_sem, e2], by simp [go_sem, e14]⟩, by simp [go_sem, hwr], by simp [go_sem, e16, hab], rfl, hu4, ?_⟩
                  simp only [hin, List.length_append, List.length_singleton, List.flatMap_append, List.flatMap_singleton, hyr]
                  simpa [go_sem] using own4
            · have hk' : k = L.length := by omega
              subst hk'
              have hfin := insK_all L o ⟨node, o, lv, false, 0, 0⟩
              simp only [List.take_length] at own hap1 own3 e16
              have hne : ∀ (v : Value) (n : Nat) (xs : List Value) (W : World), W.ownsRow w'.heap.size 32 6 v n xs → (∀ b, v.ownBlock = some b → w'.heap.size ≤ b) ∧ (∀ b, v.ownBlock = some b → b ≠ rb) := fun v n xs W h =>
                ⟨fun b hb => (h.lt b hb).1, fun b hb e => by have := (h.lt b hb).1; have := (old_ne R.rd).1; omega⟩
              cases ha : above L o with
              | true =>
                rw [ha] at e16 hfin
                simp only [if_true] at hfin
                rw [hfin] at own
                have hone := one_of_own own
                simp [go_sem, e0, e1, e2, e14, e15, e16, e17, rd, hone]
                refine ⟨rfl, v, ⟨by simp [go_sem, rd], own_keep (own_base own hbase) ((Upd.refl (fun b => b = rb) w2).setB _ _ (fun _ => rfl)) (hne _ _ _ _ own).2⟩, (hu.mono (fun _ _ h => h.elim)).setB _ _ (fun _ => rfl), (hne _ _ _ _ own).1⟩
              | false =>
                rw [ha] at e16 hfin
                simp only [Bool.false_eq_true, if_false] at hfin
                have rd3 := (R.keep0 hu3).rd
                have hone := one_of_own own3
                simp [go_sem, e0, e1, e2, e14, e15, e16, e17, rd, hbs, K_append_ok _ _ _ _ hap1, rd3, hone]
                have own3' : w3.ownsRow w'.heap.size 32 6 v1 (insL L o ⟨node, o, lv, false, 0, 0⟩).length ((insL L o ⟨node, o, lv, false, 0, 0⟩).flatMap HV.row) := by
                  rw [← hfin]
                  simp only [List.length_append, List.length_singleton, List.flatMap_append, List.flatMap_singleton, HV.row, HV.cells]
                  simpa [go_sem, HV.row, HV.cells] using own3
                refine ⟨rfl, v1, ⟨by simp [go_sem, rd3], own_keep (own_base own3' hbase) ((Upd.refl (fun b => b = rb) w3).setB _ _ (fun _ => rfl)) (hne _ _ _ _ own3').2⟩, (hu3.mono (fun _ _ h => h.elim)).setB _ _ (fun _ => rfl), (hne _ _ _ _ own3').1⟩
        · simp [go_sem, hg0]
          by_cases hw1 : 1 ≤ want
          · simp [go_sem, hw1]
            refine hgr _ ?_
            by_cases hg1 : greatL L node ≤ 1
            · have e : lv = 1 := by rw [hlv]; simp [giveLv, hg0, hw1, hg1]
              subst e
              clear hlv hgr
              simp [go_sem, hg1]
              refine den_loop (RGiveI rb L ⟨node, o, 1, false, 0, 0⟩ w') L.length ?_ ?_
              · refine ⟨0, _, rfl, Nat.zero_le _, ⟨by simp [go_sem], by simp [go_sem], by simp [go_sem], by simp [go_sem]⟩, by simp [go_sem], by simp [go_sem, above], rfl, Upd.refl _ _, ?_⟩
                simp [go_sem, insK, above]
                exact World.ownsRow_nil _ _ _ _
              · rintro m ρ w2 ⟨k, v, rfl, hk, ⟨e0, e1, e2, e14⟩, e17, e16, e15, hu, own⟩
                have R2 := R.keep0 hu
                have rd := R2.rd
                simp only at e1 e2 e14 e16 own
                have hl := insK_len (L.take k) o ⟨node, o, 1, false, 0, 0⟩
                rw [List.length_take, Nat.min_eq_left hk] at hl
                have hsz2 := hu.size
                have hbs := fun w K => slH.build1K (P := Try.prog) (w := w) (.agg #[.int .i64 node, .int .i64 o, .int .u8 1, .bool false, .int .u8 0, .int .i64 0]) rfl (by decide) K
                obtain ⟨v1, w3, hap1, own3, hg1, _⟩ := slH.append_all (own.alloc (.cells #[.int .i64 node, .int .i64 o, .int .u8 1, .bool false, .int .u8 0, .int .i64 0] 32)) 29 (b := w2.heap.size) (m := 1) (c := 1) (cs := #[.int .i64 node, .int .i64 o, .int .u8 1, .bool false, .int .u8 0, .int .i64 0]) (by rw [heap_alloc, if_pos rfl]) rfl (by simp [Value.oneCell']) (by omega) (by unfold maxLen; omega) (by simp; omega)
                have hu3 : Upd noB w' w3 := upd_append own (hu.alloc _) (Nat.le_refl _) hg1
                by_cases hlt : k < L.length
                · obtain ⟨b, oo, c, _, hi, hb, hsz, ⟨c0, c1, c2, c3, c4, c5⟩, _⟩ := R2.at k hlt
                  have hrow := cut6 c0 c1 c2 c3 c4 c5
                  have R3 := R.keep0 hu3
                  have rd3 := R3.rd
                  obtain ⟨b', oo', c', _, hi', hb', hsz', ⟨d0, d1, d2, d3, d4, d5⟩, _⟩ := R3.at k hlt
                  have hrow' := cut6 d0 d1 d2 d3 d4 d5
                  have ht : L.take (k + 1) = L.take k ++ [L[k]] := List.take_succ_eq_append_getElem hlt
                  have habv : above (L.take k) o = true → o < L[k].opn := by
                    intro ha
                    obtain ⟨z, hz, hz2⟩ := List.any_eq_true.1 ha
                    obtain ⟨j, hj, rfl⟩ := List.getElem_of_mem hz
                    rw [List.length_take] at hj
                    rw [List.getElem_take] at hz2
                    have := List.pairwise_iff_getElem.1 hs j k (by omega) hlt (by omega)
                    simp at hz2
                    omega
                  have hbl := (old_ne hb).1
                  have hwr : IntKind.i64.wrap ((k : Int) + 1) = ((k + 1 : Nat) : Int) := wrap64_id (by omega) (by omega)
                  generalize L[k] = y at *
                  have hbs2 := fun w K => slH.build1K (P := Try.prog) (w := w) (.agg #[.int .i64 y.node, .int .i64 y.opn, .int .u8 y.level, .bool y.brk, .int .u8 y.to, .int .i64 y.since]) rfl (by decide) K
                  obtain ⟨v2, w4, hap2, own4, hg2, _⟩ := slH.append_all (own.alloc (.cells #[.int .i64 y.node, .int .i64 y.opn, .int .u8 y.level, .bool y.brk, .int .u8 y.to, .int .i64 y.since] 32)) 29 (b := w2.heap.size) (m := 1) (c := 1) (cs := #[.int .i64 y.node, .int .i64 y.opn, .int .u8 y.level, .bool y.brk, .int .u8 y.to, .int .i64 y.since]) (by rw [heap_alloc, if_pos rfl]) rfl (by simp [Value.oneCell']) (by omega) (by unfold maxLen; omega) (by simp; omega)
                  have hu4 : Upd noB w' w4 := upd_append own (hu.alloc _) (Nat.le_refl _) hg2
                  have hyr : y.row = [.int .i64 y.node, .int .i64 y.opn, .int .u8 y.level, .bool y.brk, .int .u8 y.to, .int .i64 y.since] := rfl
                  cases ha : above (L.take k) o with
                  | true =>
                    have hy := habv ha
                    rw [ha] at e16
                    have hin := insK_more (l := L.take k) (o := o) ⟨node, o, 1, false, 0, 0⟩ y ha hy
                    rw [← ht] at hin
                    have hab : above (L.take (k + 1)) o = true := by rw [ht, above_snoc, ha]; rfl
                    simp [go_sem, e0, e1, e2, e14, e15, e16, e17, rd, hlt, hi, hb, hsz, hrow, hbs2, K_append_ok _ _ _ _ hap2]
                    refine ⟨L.length - (k + 1), by omega, k + 1, _, rfl, by omega, ⟨by simp [go_sem, e0], by simp [go_sem, e1], by simp [go_sem, e2], by simp [go_sem, e14]⟩, by simp [go_sem, hwr], by simp [go_sem, e16, hab], rfl, hu4, ?_⟩
                    simp only [hin, List.length_append, List.length_singleton, List.flatMap_append, List.flatMap_singleton, hyr]
                    simpa [go_sem] using own4
                  | false =>
                    rw [ha] at e16
                    by_cases hy : o < y.opn
                    · have hin := insK_first (l := L.take k) (o := o) ⟨node, o, 1, false, 0, 0⟩ y ha hy
                      rw [← ht] at hin
                      have hlow := insK_low (l := L.take k) (o := o) ⟨node, o, 1, false, 0, 0⟩ ha
                      have hab : above (L.take (k + 1)) o = true := by rw [ht, above_snoc, ha]; simpa using hy
                      obtain ⟨v5, w5, hap5, own5, hg5, _⟩ := slH.append_all (own3.alloc (.cells #[.int .i64 y.node, .int .i64 y.opn, .int .u8 y.level, .bool y.brk, .int .u8 y.to, .int .i64 y.since] 32)) 29 (b := w3.heap.size) (m := 1) (c := 1) (cs := #[.int .i64 y.node, .int .i64 y.opn, .int .u8 y.level, .bool y.brk, .int .u8 y.to, .int .i64 y.since]) (by rw [heap_alloc, if_pos rfl]) rfl (by simp [Value.oneCell']) (by omega) (by unfold maxLen; omega) (by have := hu3.size; simp; omega)
                      have hu5 : Upd noB w' w5 := upd_append own3 (hu3.alloc _) (Nat.le_refl _) hg5
                      simp [go_sem, e0, e1, e2, e14, e15, e16, e17, rd, hlt, hi, hb, c1, hy, hbs, K_append_ok _ _ _ _ hap1, rd3, hi', hb', hsz', hrow', hbs2, K_append_ok _ _ _ _ hap5]
                      refine ⟨L.length - (k + 1), by omega, k + 1, _, rfl, by omega, ⟨by simp [go_sem, e0], by simp [go_sem, e1], by simp [go_sem, e2], by simp [go_sem, e14]⟩, by simp [go_sem, hwr], by simp [go_sem, hab], rfl, hu5, ?_⟩
                      rw [hlow] at own5
                      simp only [hin, List.length_append, List.length_singleton, List.flatMap_append, List.flatMap_singleton, hyr, HV.row, HV.cells]
                      simpa [go_sem] using own5
                    · have hin := insK_on (l := L.take k) (o := o) ⟨node, o, 1, false, 0, 0⟩ y ha hy
                      rw [← ht] at hin
                      have hab : above (L.take (k + 1)) o = false := by rw [ht, above_snoc, ha]; simpa using hy
                      simp [go_sem, e0, e1, e2, e14, e15, e16, e17, rd, hlt, hi, hb, hsz, hrow, hbs2, K_append_ok _ _ _ _ hap2, c1, hy]
                      refine ⟨L.length - (k + 1), by omega, k + 1, _, rfl, by omega, ⟨by simp [go_sem, e0], by simp [go_sem, e1], by simp [go_sem, e2], by simp [go_sem, e14]⟩, by simp [go_sem, hwr], by simp [go_sem, e16, hab], rfl, hu4, ?_⟩
                      simp only [hin, List.length_append, List.length_singleton, List.flatMap_append, List.flatMap_singleton, hyr]
                      simpa [go_sem] using own4
                · have hk' : k = L.length := by omega
                  subst hk'
                  have hfin := insK_all L o ⟨node, o, 1, false, 0, 0⟩
                  simp only [List.take_length] at own hap1 own3 e16
                  have hne : ∀ (v : Value) (n : Nat) (xs : List Value) (W : World), W.ownsRow w'.heap.size 32 6 v n xs → (∀ b, v.ownBlock = some b → w'.heap.size ≤ b) ∧ (∀ b, v.ownBlock = some b → b ≠ rb) := fun v n xs W h =>
                    ⟨fun b hb => (h.lt b hb).1, fun b hb e => by have := (h.lt b hb).1; have := (old_ne R.rd).1; omega⟩
                  cases ha : above L o with
                  | true =>
                    rw [ha] at e16 hfin
                    simp only [if_true] at hfin
                    rw [hfin] at own
                    have hone := one_of_own own
                    simp [go_sem, e0, e1, e2, e14, e15, e16, e17, rd, hone]
                    refine ⟨rfl, v, ⟨by simp [go_sem, rd], own_keep (own_base own hbase) ((Upd.refl (fun b => b = rb) w2).setB _ _ (fun _ => rfl)) (hne _ _ _ _ own).2⟩, (hu.mono (fun _ _ h => h.elim)).setB _ _ (fun _ => rfl), (hne _ _ _ _ own).1⟩
                  | false =>
                    rw [ha] at e16 hfin
                    simp only [Bool.false_eq_true, if_false] at hfin
                    have rd3 := (R.keep0 hu3).rd
                    have hone := one_of_own own3
                    simp [go_sem, e0, e1, e2, e14, e15, e16, e17, rd, hbs, K_append_ok _ _ _ _ hap1, rd3, hone]
                    have own3' : w3.ownsRow w'.heap.size 32 6 v1 (insL L o ⟨node, o, 1, false, 0, 0⟩).length ((insL L o ⟨node, o, 1, false, 0, 0⟩).flatMap HV.row) := by
                      rw [← hfin]
                      simp only [List.length_append, List.length_singleton, List.flatMap_append, List.flatMap_singleton, HV.row, HV.cells]
                      simpa [go_sem, HV.row, HV.cells] using own3
                    refine ⟨rfl, v1, ⟨by simp [go_sem, rd3], own_keep (own_base own3' hbase) ((Upd.refl (fun b => b = rb) w3).setB _ _ (fun _ => rfl)) (hne _ _ _ _ own3').2⟩, (hu3.mono (fun _ _ h => h.elim)).setB _ _ (fun _ => rfl), (hne _ _ _ _ own3').1⟩
            · have e : lv = 0 := by rw [hlv]; simp [giveLv, hg0, hw1, hg1]
              subst e
              clear hlv hgr
              simp [go_sem, hg1]
              refine den_loop (RGiveI rb L ⟨node, o, 0, false, 0, 0⟩ w') L.length ?_ ?_
              · refine ⟨0, _, rfl, Nat.zero_le _, ⟨by simp [go_sem], by simp [go_sem], by simp [go_sem], by simp [go_sem]⟩, by simp [go_sem], by simp [go_sem, above], rfl, Upd.refl _ _, ?_⟩
                simp [go_sem, insK, above]
                exact World.ownsRow_nil _ _ _ _
              · rintro m ρ w2 ⟨k, v, rfl, hk, ⟨e0, e1, e2, e14⟩, e17, e16, e15, hu, own⟩
                have R2 := R.keep0 hu
                have rd := R2.rd
                simp only at e1 e2 e14 e16 own
                have hl := insK_len (L.take k) o ⟨node, o, 0, false, 0, 0⟩
                rw [List.length_take, Nat.min_eq_left hk] at hl
                have hsz2 := hu.size
                have hbs := fun w K => slH.build1K (P := Try.prog) (w := w) (.agg #[.int .i64 node, .int .i64 o, .int .u8 0, .bool false, .int .u8 0, .int .i64 0]) rfl (by decide) K
                obtain ⟨v1, w3, hap1, own3, hg1, _⟩ := slH.append_all (own.alloc (.cells #[.int .i64 node, .int .i64 o, .int .u8 0, .bool false, .int .u8 0, .int .i64 0] 32)) 29 (b := w2.heap.size) (m := 1) (c := 1) (cs := #[.int .i64 node, .int .i64 o, .int .u8 0, .bool false, .int .u8 0, .int .i64 0]) (by rw [heap_alloc, if_pos rfl]) rfl (by simp [Value.oneCell']) (by omega) (by unfold maxLen; omega) (by simp; omega)
                have hu3 : Upd noB w' w3 := upd_append own (hu.alloc _) (Nat.le_refl _) hg1
                by_cases hlt : k < L.length
                · obtain ⟨b, oo, c, _, hi, hb, hsz, ⟨c0, c1, c2, c3, c4, c5⟩, _⟩ := R2.at k hlt
                  have hrow := cut6 c0 c1 c2 c3 c4 c5
                  have R3 := R.keep0 hu3
                  have rd3 := R3.rd
                  obtain ⟨b', oo', c', _, hi', hb', hsz', ⟨d0, d1, d2, d3, d4, d5⟩, _⟩ := R3.at k hlt
                  have hrow' := cut6 d0 d1 d2 d3 d4 d5
                  have ht : L.take (k + 1) = L.take k ++ [L[k]] := List.take_succ_eq_append_getElem hlt
                  have habv : above (L.take k) o = true → o < L[k].opn := by
                    intro ha
                    obtain ⟨z, hz, hz2⟩ := List.any_eq_true.1 ha
                    obtain ⟨j, hj, rfl⟩ := List.getElem_of_mem hz
                    rw [List.length_take] at hj
                    rw [List.getElem_take] at hz2
                    have := List.pairwise_iff_getElem.1 hs j k (by omega) hlt (by omega)
                    simp at hz2
                    omega
                  have hbl := (old_ne hb).1
                  have hwr : IntKind.i64.wrap ((k : Int) + 1) = ((k + 1 : Nat) : Int) := wrap64_id (by omega) (by omega)
                  generalize L[k] = y at *
                  have hbs2 := fun w K => slH.build1K (P := Try.prog) (w := w) (.agg #[.int .i64 y.node, .int .i64 y.opn, .int .u8 y.level, .bool y.brk, .int .u8 y.to, .int .i64 y.since]) rfl (by decide) K
                  obtain ⟨v2, w4, hap2, own4, hg2, _⟩ := slH.append_all (own.alloc (.cells #[.int .i64 y.node, .int .i64 y.opn, .int .u8 y.level, .bool y.brk, .int .u8 y.to, .int .i64 y.since] 32)) 29 (b := w2.heap.size) (m := 1) (c := 1) (cs := #[.int .i64 y.node, .int .i64 y.opn, .int .u8 y.level, .bool y.brk, .int .u8 y.to, .int .i64 y.since]) (by rw [heap_alloc, if_pos rfl]) rfl (by simp [Value.oneCell']) (by omega) (by unfold maxLen; omega) (by simp; omega)
                  have hu4 : Upd noB w' w4 := upd_append own (hu.alloc _) (Nat.le_refl _) hg2
                  have hyr : y.row = [.int .i64 y.node, .int .i64 y.opn, .int .u8 y.level, .bool y.brk, .int .u8 y.to, .int .i64 y.since] := rfl
                  cases ha : above (L.take k) o with
                  | true =>
                    have hy := habv ha
                    rw [ha] at e16
                    have hin := insK_more (l := L.take k) (o := o) ⟨node, o, 0, false, 0, 0⟩ y ha hy
                    rw [← ht] at hin
                    have hab : above (L.take (k + 1)) o = true := by rw [ht, above_snoc, ha]; rfl
                    simp [go_sem, e0, e1, e2, e14, e15, e16, e17, rd, hlt, hi, hb, hsz, hrow, hbs2, K_append_ok _ _ _ _ hap2]
                    refine ⟨L.length - (k + 1), by omega, k + 1, _, rfl, by omega, ⟨by simp [go_sem, e0], by simp [go_sem, e1], by simp [go_sem, e2], by simp [go_sem, e14]⟩, by simp [go_sem, hwr], by simp [go_sem, e16, hab], rfl, hu4, ?_⟩
                    simp only [hin, List.length_append, List.length_singleton, List.flatMap_append, List.flatMap_singleton, hyr]
                    simpa [go_sem] using own4
                  | false =>
                    rw [ha] at e16
                    by_cases hy : o < y.opn
                    · have hin := insK_first (l := L.take k) (o := o) ⟨node, o, 0, false, 0, 0⟩ y ha hy
                      rw [← ht] at hin
                      have hlow := insK_low (l := L.take k) (o := o) ⟨node, o, 0, false, 0, 0⟩ ha
                      have hab : above (L.take (k + 1)) o = true := by rw [ht, above_snoc, ha]; simpa using hy
                      obtain ⟨v5, w5, hap5, own5, hg5, _⟩ := slH.append_all (own3.alloc (.cells #[.int .i64 y.node, .int .i64 y.opn, .int .u8 y.level, .bool y.brk, .int .u8 y.to, .int .i64 y.since] 32)) 29 (b := w3.heap.size) (m := 1) (c := 1) (cs := #[.int .i64 y.node, .int .i64 y.opn, .int .u8 y.level, .bool y.brk, .int .u8 y.to, .int .i64 y.since]) (by rw [heap_alloc, if_pos rfl]) rfl (by simp [Value.oneCell']) (by omega) (by unfold maxLen; omega) (by have := hu3.size; simp; omega)
                      have hu5 : Upd noB w' w5 := upd_append own3 (hu3.alloc _) (Nat.le_refl _) hg5
                      simp [go_sem, e0, e1, e2, e14, e15, e16, e17, rd, hlt, hi, hb, c1, hy, hbs, K_append_ok _ _ _ _ hap1, rd3, hi', hb', hsz', hrow', hbs2, K_append_ok _ _ _ _ hap5]
                      refine ⟨L.length - (k + 1), by omega, k + 1, _, rfl, by omega, ⟨by simp [go_sem, e0], by simp [go_sem, e1], by simp [go_sem, e2], by simp [go_sem, e14]⟩, by simp [go_sem, hwr], by simp [go_sem, hab], rfl, hu5, ?_⟩
                      rw [hlow] at own5
                      simp only [hin, List.length_append, List.length_singleton, List.flatMap_append, List.flatMap_singleton, hyr, HV.row, HV.cells]
                      simpa [go_sem] using own5
                    · have hin := insK_on (l := L.take k) (o := o) ⟨node, o, 0, false, 0, 0⟩ y ha hy
                      rw [← ht] at hin
                      have hab : above (L.take (k + 1)) o = false := by rw [ht, above_snoc, ha]; simpa using hy
                      simp [go_sem, e0, e1, e2, e14, e15, e16, e17, rd, hlt, hi, hb, hsz, hrow, hbs2, K_append_ok _ _ _ _ hap2, c1, hy]
                      refine ⟨L.length - (k + 1), by omega, k + 1, _, rfl, by omega, ⟨by simp [go_sem, e0], by simp [go_sem, e1], by simp [go_sem, e2], by simp [go_sem, e14]⟩, by simp [go_sem, hwr], by simp [go_sem, e16, hab], rfl, hu4, ?_⟩
                      simp only [hin, List.length_append, List.length_singleton, List.flatMap_append, List.flatMap_singleton, hyr]
                      simpa [go_sem] using own4
                · have hk' : k = L.length := by omega
                  subst hk'
                  have hfin := insK_all L o ⟨node, o, 0, false, 0, 0⟩
                  simp only [List.take_length] at own hap1 own3 e16
                  have hne : ∀ (v : Value) (n : Nat) (xs : List Value) (W : World), W.ownsRow w'.heap.size 32 6 v n xs → (∀ b, v.ownBlock = some b → w'.heap.size ≤ b) ∧ (∀ b, v.ownBlock = some b → b ≠ rb) := fun v n xs W h =>
                    ⟨fun b hb => (h.lt b hb).1, fun b hb e => by have := (h.lt b hb).1; have := (old_ne R.rd).1; omega⟩
                  cases ha : above L o with
                  | true =>
                    rw [ha] at e16 hfin
                    simp only [if_true] at hfin
                    rw [hfin] at own
                    have hone := one_of_own own
                    simp [go_sem, e0, e1, e2, e14, e15, e16, e17, rd, hone]
                    refine ⟨rfl, v, ⟨by simp [go_sem, rd], own_keep (own_base own hbase) ((Upd.refl (fun b => b = rb) w2).setB _ _ (fun _ => rfl)) (hne _ _ _ _ own).2⟩, (hu.mono (fun _ _ h => h.elim)).setB _ _ (fun _ => rfl), (hne _ _ _ _ own).1⟩
                  | false =>
                    rw [ha] at e16 hfin
                    simp only [Bool.false_eq_true, if_false] at hfin
                    have rd3 := (R.keep0 hu3).rd
                    have hone := one_of_own own3
                    simp [go_sem, e0, e1, e2, e14, e15, e16, e17, rd, hbs, K_append_ok _ _ _ _ hap1, rd3, hone]
                    have own3' : w3.ownsRow w'.heap.size 32 6 v1 (insL L o ⟨node, o, 0, false, 0, 0⟩).length ((insL L o ⟨node, o, 0, false, 0, 0⟩).flatMap HV.row) := by
                      rw [← hfin]
                      simp only [List.length_append, List.length_singleton, List.flatMap_append, List.flatMap_singleton, HV.row, HV.cells]
                      simpa [go_sem, HV.row, HV.cells] using own3
                    refine ⟨rfl, v1, ⟨by simp [go_sem, rd3], own_keep (own_base own3' hbase) ((Upd.refl (fun b => b = rb) w3).setB _ _ (fun _ => rfl)) (hne _ _ _ _ own3').2⟩, (hu3.mono (fun _ _ h => h.elim)).setB _ _ (fun _ => rfl), (hne _ _ _ _ own3').1⟩
          · have e : lv = 0 := by rw [hlv]; simp [giveLv, hg0, hw1]
            subst e
            clear hlv hgr
            simp [go_sem, hw1]
            refine den_loop (RGiveI rb L ⟨node, o, 0, false, 0, 0⟩ w') L.length ?_ ?_
            · refine ⟨0, _, rfl, Nat.zero_le _, ⟨by simp [go_sem], by simp [go_sem], by simp [go_sem], by simp [go_sem]⟩, by simp [go_sem], by simp [go_sem, above], rfl, Upd.refl _ _, ?_⟩
              simp [go_sem, insK, above]
              exact World.ownsRow_nil _ _ _ _
            · rintro m ρ w2 ⟨k, v, rfl, hk, ⟨e0, e1, e2, e14⟩, e17, e16, e15, hu, own⟩
              have R2 := R.keep0 hu
              have rd := R2.rd
              simp only at e1 e2 e14 e16 own
              have hl := insK_len (L.take k) o ⟨node, o, 0, false, 0, 0⟩
              rw [List.length_take, Nat.min_eq_left hk] at hl
              have hsz2 := hu.size
              have hbs := fun w K => slH.build1K (P := Try.prog) (w := w) (.agg #[.int .i64 node, .int .i64 o, .int .u8 0, .bool false, .int .u8 0, .int .i64 0]) rfl (by decide) K
              obtain ⟨v1, w3, hap1, own3, hg1, _⟩ := slH.append_all (own.alloc (.cells #[.int .i64 node, .int .i64 o, .int .u8 0, .bool false, .int .u8 0, .int .i64 0] 32)) 29 (b := w2.heap.size) (m := 1) (c := 1) (cs := #[.int .i64 node, .int .i64 o, .int .u8 0, .bool false, .int .u8 0, .int .i64 0]) (by rw [heap_alloc, if_pos rfl]) rfl (by simp [Value.oneCell']) (by omega) (by unfold maxLen; omega) (by simp; omega)
              have hu3 : Upd noB w' w3 := upd_append own (hu.alloc _) (Nat.le_refl _) hg1
              by_cases hlt : k < L.length
              · obtain ⟨b, oo, c, _, hi, hb, hsz, ⟨c0, c1, c2, c3, c4, c5⟩, _⟩ := R2.at k hlt
                have hrow := cut6 c0 c1 c2 c3 c4 c5
                have R3 := R.keep0 hu3
                have rd3 := R3.rd
                obtain ⟨b', oo', c', _, hi', hb', hsz', ⟨d0, d1, d2, d3, d4, d5⟩, _⟩ := R3.at k hlt
                have hrow' := cut6 d0 d1 d2 d3 d4 d5
                have ht : L.take (k + 1) = L.take k ++ [L[k]] := List.take_succ_eq_append_getElem hlt
                have habv : above (L.take k) o = true → o < L[k].opn := by
                  intro ha
                  obtain ⟨z, hz, hz2⟩ := List.any_eq_true.1 ha
                  obtain ⟨j, hj, rfl⟩ := List.getElem_of_mem hz
                  rw [List.length_take] at hj
                  rw [List.getElem_take] at hz2
                  have := List.pairwise_iff_getElem.1 hs j k (by omega) hlt (by omega)
                  simp at hz2
                  omega
                have hbl := (old_ne hb).1
                have hwr : IntKind.i64.wrap ((k : Int) + 1) = ((k + 1 : Nat) : Int) := wrap64_id (by omega) (by omega)
                generalize L[k] = y at *
                have hbs2 := fun w K => slH.build1K (P := Try.prog) (w := w) (.agg #[.int .i64 y.node, .int .i64 y.opn, .int .u8 y.level, .bool y.brk, .int .u8 y.to, .int .i64 y.since]) rfl (by decide) K
                obtain ⟨v2, w4, hap2, own4, hg2, _⟩ := slH.append_all (own.alloc (.cells #[.int .i64 y.node, .int .i64 y.opn, .int .u8 y.level, .bool y.brk, .int .u8 y.to, .int .i64 y.since] 32)) 29 (b := w2.heap.size) (m := 1) (c := 1) (cs := #[.int .i64 y.node, .int .i64 y.opn, .int .u8 y.level, .bool y.brk, .int .u8 y.to, .int .i64 y.since]) (by rw [heap_alloc, if_pos rfl]) rfl (by simp [Value.oneCell']) (by omega) (by unfold maxLen; omega) (by simp; omega)
                have hu4 : Upd noB w' w4 := upd_append own (hu.alloc _) (Nat.le_refl _) hg2
                have hyr : y.row = [.int .i64 y.node, .int .i64 y.opn, .int .u8 y.level, .bool y.brk, .int .u8 y.to, .int .i64 y.since] := rfl
                cases ha : above (L.take k) o with
                | true =>
                  have hy := habv ha
                  rw [ha] at e16
                  have hin := insK_more (l := L.take k) (o := o) ⟨node, o, 0, false, 0, 0⟩ y ha hy
                  rw [← ht] at hin
                  have hab : above (L.take (k + 1)) o = true := by rw [ht, above_snoc, ha]; rfl
                  simp [go_sem, e0, e1, e2, e14, e15, e16, e17, rd, hlt, hi, hb, hsz, hrow, hbs2, K_append_ok _ _ _ _ hap2]
                  refine ⟨L.length - (k + 1), by omega, k + 1, _, rfl, by omega, ⟨by simp [go_sem, e0], by simp [go_sem, e1], by simp [go_sem, e2], by simp [go_sem, e14]⟩, by simp [go_sem, hwr], by simp [go_sem, e16, hab], rfl, hu4, ?_⟩
                  simp only [hin, List.length_append, List.length_singleton, List.flatMap_append, List.flatMap_singleton, hyr]
                  simpa [go_sem] using own4
                | false =>
                  rw [ha] at e16
                  by_cases hy : o < y.opn
                  · have hin := insK_first (l := L.take k) (o := o) ⟨node, o, 0, false, 0, 0⟩ y ha hy
                    rw [← ht] at hin
                    have hlow := insK_low (l := L.take k) (o := o) ⟨node, o, 0, false, 0, 0⟩ ha
                    have hab : above (L.take (k + 1)) o = true := by rw [ht, above_snoc, ha]; simpa using hy
                    obtain ⟨v5, w5, hap5, own5, hg5, _⟩ := slH.append_all (own3.alloc (.cells #[.int .i64 y.node, .int .i64 y.opn, .int .u8 y.level, .bool y.brk, .int .u8 y.to, .int .i64 y.since] 32)) 29 (b := w3.heap.size) (m := 1) (c := 1) (cs := #[.int .i64 y.node, .int .i64 y.opn, .int .u8 y.level, .bool y.brk, .int .u8 y.to, .int .i64 y.since]) (by rw [heap_alloc, if_pos rfl]) rfl (by simp [Value.oneCell']) (by omega) (by unfold maxLen; omega) (by have := hu3.size; simp; omega)
                    have hu5 : Upd noB w' w5 := upd_append own3 (hu3.alloc _) (Nat.le_refl _) hg5
                    simp [go_sem, e0, e1, e2, e14, e15, e16, e17, rd, hlt, hi, hb, c1, hy, hbs, K_append_ok _ _ _ _ hap1, rd3, hi', hb', hsz', hrow', hbs2, K_append_ok _ _ _ _ hap5]
                    refine ⟨L.length - (k + 1), by omega, k + 1, _, rfl, by omega, ⟨by simp [go_sem, e0], by simp [go_sem, e1], by simp [go_sem, e2], by simp [go_sem, e14]⟩, by simp [go_sem, hwr], by simp [go_sem, hab], rfl, hu5, ?_⟩
                    rw [hlow] at own5
                    simp only [hin, List.length_append, List.length_singleton, List.flatMap_append, List.flatMap_singleton, hyr, HV.row, HV.cells]
                    simpa [go_sem] using own5
                  · have hin := insK_on (l := L.take k) (o := o) ⟨node, o, 0, false, 0, 0⟩ y ha hy
                    rw [← ht] at hin
                    have hab : above (L.take (k + 1)) o = false := by rw [ht, above_snoc, ha]; simpa using hy
                    simp [go_sem, e0, e1, e2, e14, e15, e16, e17, rd, hlt, hi, hb, hsz, hrow, hbs2, K_append_ok _ _ _ _ hap2, c1, hy]
                    refine ⟨L.length - (k + 1), by omega, k + 1, _, rfl, by omega, ⟨by simp [go_sem, e0], by simp [go_sem, e1], by simp [go_sem, e2], by simp [go_sem, e14]⟩, by simp [go_sem, hwr], by simp [go_sem, e16, hab], rfl, hu4, ?_⟩
                    simp only [hin, List.length_append, List.length_singleton, List.flatMap_append, List.flatMap_singleton, hyr]
                    simpa [go_sem] using own4
              · have hk' : k = L.length := by omega
                subst hk'
                have hfin := insK_all L o ⟨node, o, 0, false, 0, 0⟩
                simp only [List.take_length] at own hap1 own3 e16
                have hne : ∀ (v : Value) (n : Nat) (xs : List Value) (W : World), W.ownsRow w'.heap.size 32 6 v n xs → (∀ b, v.ownBlock = some b → w'.heap.size ≤ b) ∧ (∀ b, v.ownBlock = some b → b ≠ rb) := fun v n xs W h =>
                  ⟨fun b hb => (h.lt b hb).1, fun b hb e => by have := (h.lt b hb).1; have := (old_ne R.rd).1; omega⟩
                cases ha : above L o with
                | true =>
                  rw [ha] at e16 hfin
                  simp only [if_true] at hfin
                  rw [hfin] at own
                  have hone := one_of_own own
                  simp [go_sem, e0, e1, e2, e14, e15, e16, e17, rd, hone]
                  refine ⟨rfl, v, ⟨by simp [go_sem, rd], own_keep (own_base own hbase) ((Upd.refl (fun b => b = rb) w2).setB _ _ (fun _ => rfl)) (hne _ _ _ _ own).2⟩, (hu.mono (fun _ _ h => h.elim)).setB _ _ (fun _ => rfl), (hne _ _ _ _ own).1⟩
                | false =>
                  rw [ha] at e16 hfin
                  simp only [Bool.false_eq_true, if_false] at hfin
                  have rd3 := (R.keep0 hu3).rd
                  have hone := one_of_own own3
                  simp [go_sem, e0, e1, e2, e14, e15, e16, e17, rd, hbs, K_append_ok _ _ _ _ hap1, rd3, hone]
                  have own3' : w3.ownsRow w'.heap.size 32 6 v1 (insL L o ⟨node, o, 0, false, 0, 0⟩).length ((insL L o ⟨node, o, 0, false, 0, 0⟩).flatMap HV.row) := by
                    rw [← hfin]
                    simp only [List.length_append, List.length_singleton, List.flatMap_append, List.flatMap_singleton, HV.row, HV.cells]
                    simpa [go_sem, HV.row, HV.cells] using own3
                  refine ⟨rfl, v1, ⟨by simp [go_sem, rd3], own_keep (own_base own3' hbase) ((Upd.refl (fun b => b = rb) w3).setB _ _ (fun _ => rfl)) (hne _ _ _ _ own3').2⟩, (hu3.mono (fun _ _ h => h.elim)).setB _ _ (fun _ => rfl), (hne _ _ _ _ own3').1⟩
      · simp [go_sem, ho0]
        by_cases hw1 : 1 ≤ want
        · simp [go_sem, hw1]
          refine hgr _ ?_
          by_cases hg1 : greatL L node ≤ 1
          · have e : lv = 1 := by rw [hlv]; simp [giveLv, ho0, hw1, hg1]
            subst e
            clear hlv hgr
            simp [go_sem, hg1]
            refine den_loop (RGiveI rb L ⟨node, o, 1, false, 0, 0⟩ w') L.length ?_ ?_
            · refine ⟨0, _, rfl, Nat.zero_le _, ⟨by simp [go_sem], by simp [go_sem], by simp [go_sem], by simp [go_sem]⟩, by simp [go_sem], by simp [go_sem, above], rfl, Upd.refl _ _, ?_⟩
              simp [go_sem, insK, above]
              exact World.ownsRow_nil _ _ _ _
            · rintro m ρ w2 ⟨k, v, rfl, hk, ⟨e0, e1, e2, e14⟩, e17, e16, e15, hu, own⟩
              have R2 := R.keep0 hu
              have rd := R2.rd
              simp only at e1 e2 e14 e16 own
              have hl := insK_len (L.take k) o ⟨node, o, 1, false, 0, 0⟩
              rw [List.length_take, Nat.min_eq_left hk] at hl
              have hsz2 := hu.size
              have hbs := fun w K => slH.build1K (P := Try.prog) (w := w) (.agg #[.int .i64 node, .int .i64 o, .int .u8 1, .bool false, .int .u8 0, .int .i64 0]) rfl (by decide) K
              obtain ⟨v1, w3, hap1, own3, hg1, _⟩ := slH.append_all (own.alloc (.cells #[.int .i64 node, .int .i64 o, .int .u8 1, .bool false, .int .u8 0, .int .i64 0] 32)) 29 (b := w2.heap.size) (m := 1) (c := 1) (cs := #[.int .i64 node, .int .i64 o, .int .u8 1, .bool false, .int .u8 0, .int .i64 0]) (by rw [heap_alloc, if_pos rfl]) rfl (by simp [Value.oneCell']) (by omega) (by unfold maxLen; omega) (by simp; omega)
              have hu3 : Upd noB w' w3 := upd_append own (hu.alloc _) (Nat.le_refl _) hg1
              by_cases hlt : k < L.length
              · obtain ⟨b, oo, c, _, hi, hb, hsz, ⟨c0, c1, c2, c3, c4, c5⟩, _⟩ := R2.at k hlt
                have hrow := cut6 c0 c1 c2 c3 c4 c5
                have R3 := R.keep0 hu3
                have rd3 := R3.rd
                obtain ⟨b', oo', c', _, hi', hb', hsz', ⟨d0, d1, d2, d3, d4, d5⟩, _⟩ := R3.at k hlt
                have hrow' := cut6 d0 d1 d2 d3 d4 d5
                have ht : L.take (k + 1) = L.take k ++ [L[k]] := List.take_succ_eq_append_getElem hlt
                have habv : above (L.take k) o = true → o < L[k].opn := by
                  intro ha
                  obtain ⟨z, hz, hz2⟩ := List.any_eq_true.1 ha
                  obtain ⟨j, hj, rfl⟩ := List.getElem_of_mem hz
                  rw [List.length_take] at hj
                  rw [List.getElem_take] at hz2
                  have := List.pairwise_iff_getElem.1 hs j k (by omega) hlt (by omega)
                  simp at hz2
                  omega
                have hbl := (old_ne hb).1
                have hwr : IntKind.i64.wrap ((k : Int) + 1) = ((k + 1 : Nat) : Int) := wrap64_id (by omega) (by omega)
                generalize L[k] = y at *
                have hbs2 := fun w K => slH.build1K (P := Try.prog) (w := w) (.agg #[.int .i64 y.node, .int .i64 y.opn, .int .u8 y.level, .bool y.brk, .int .u8 y.to, .int .i64 y.since]) rfl (by decide) K
                obtain ⟨v2, w4, hap2, own4, hg2, _⟩ := slH.append_all (own.alloc (.cells #[.int .i64 y.node, .int .i64 y.opn, .int .u8 y.level, .bool y.brk, .int .u8 y.to, .int .i64 y.since] 32)) 29 (b := w2.heap.size) (m := 1) (c := 1) (cs := #[.int .i64 y.node, .int .i64 y.opn, .int .u8 y.level, .bool y.brk, .int .u8 y.to, .int .i64 y.since]) (by rw [heap_alloc, if_pos rfl]) rfl (by simp [Value.oneCell']) (by omega) (by unfold maxLen; omega) (by simp; omega)
                have hu4 : Upd noB w' w4 := upd_append own (hu.alloc _) (Nat.le_refl _) hg2
                have hyr : y.row = [.int .i64 y.node, .int .i64 y.opn, .int .u8 y.level, .bool y.brk, .int .u8 y.to, .int .i64 y.since] := rfl
                cases ha : above (L.take k) o with
                | true =>
                  have hy := habv ha
                  rw [ha] at e16
                  have hin := insK_more (l := L.take k) (o := o) ⟨node, o, 1, false, 0, 0⟩ y ha hy
                  rw [← ht] at hin
                  have hab : above (L.take (k + 1)) o = true := by rw [ht, above_snoc, ha]; rfl
                  simp [go_sem, e0, e1, e2, e14, e15, e16, e17, rd, hlt, hi, hb, hsz, hrow, hbs2, K_append_ok _ _ _ _ hap2]
                  refine ⟨L.length - (k + 1), by omega, k + 1, _, rfl, by omega, ⟨by simp [go_sem, e0], by simp [go_sem, e1], by simp [go_sem, e2], by simp [go_sem, e14]⟩, by simp [go_sem, hwr], by simp [go_sem, e16, hab], rfl, hu4, ?_⟩
                  simp only [hin, List.length_append, List.length_singleton, List.flatMap_append, List.flatMap_singleton, hyr]
                  simpa [go_sem] using own4
                | false =>
                  rw [ha] at e16
                  by_cases hy : o < y.opn
                  · have hin := insK_first (l := L.take k) (o := o) ⟨node, o, 1, false, 0, 0⟩ y ha hy
                    rw [← ht] at hin
                    have hlow := insK_low (l := L.take k) (o := o) ⟨node, o, 1, false, 0, 0⟩ ha
                    have hab : above (L.take (k + 1)) o = true := by rw [ht, above_snoc, ha]; simpa using hy
                    obtain ⟨v5, w5, hap5, own5, hg5, _⟩ := slH.append_all (own3.alloc (.cells #[.int .i64 y.node, .int .i64 y.opn, .int .u8 y.level, .bool y.brk, .int .u8 y.to, .int .i64 y.since] 32)) 29 (b := w3.heap.size) (m := 1) (c := 1) (cs := #[.int .i64 y.node, .int .i64 y.opn, .int .u8 y.level, .bool y.brk, .int .u8 y.to, .int .i64 y.since]) (by rw [heap_alloc, if_pos rfl]) rfl (by simp [Value.oneCell']) (by omega) (by unfold maxLen; omega) (by have := hu3.size; simp; omega)
                    have hu5 : Upd noB w' w5 := upd_append own3 (hu3.alloc _) (Nat.le_refl _) hg5
                    simp [go_sem, e0, e1, e2, e14, e15, e16, e17, rd, hlt, hi, hb, c1, hy, hbs, K_append_ok _ _ _ _ hap1, rd3, hi', hb', hsz', hrow', hbs2, K_append_ok _ _ _ _ hap5]
                    refine ⟨L.length - (k + 1), by omega, k + 1, _, rfl, by omega, ⟨by simp [go_sem, e0], by simp [go_sem, e1], by simp [go_sem, e2], by simp [go_sem, e14]⟩, by simp [go_sem, hwr], by simp [go_sem, hab], rfl, hu5, ?_⟩
                    rw [hlow] at own5
                    simp only [hin, List.length_append, List.length_singleton, List.flatMap_append, List.flatMap_singleton, hyr, HV.row, HV.cells]
                    simpa [go_sem] using own5
                  · have hin := insK_on (l := L.take k) (o := o) ⟨node, o, 1, false, 0, 0⟩ y ha hy
                    rw [← ht] at hin
                    have hab : above (L.take (k + 1)) o = false := by rw [ht, above_snoc, ha]; simpa using hy
                    simp [go_sem, e0, e1, e2, e14, e15, e16, e17, rd, hlt, hi, hb, hsz, hrow, hbs2, K_append_ok _ _ _ _ hap2, c1, hy]
                    refine ⟨L.length - (k + 1), by omega, k + 1, _, rfl, by omega, ⟨by simp [go_sem, e0], by simp [go_sem, e1], by simp [go_sem, e2], by simp [go_sem, e14]⟩, by simp [go_sem, hwr], by simp [go_sem, e16, hab], rfl, hu4, ?_⟩
                    simp only [hin, List.length_append, List.length_singleton, List.flatMap_append, List.flatMap_singleton, hyr]
                    simpa [go_sem] using own4
              · have hk' : k = L.length := by omega
                subst hk'
                have hfin := insK_all L o ⟨node, o, 1, false, 0, 0⟩
                simp only [List.take_length] at own hap1 own3 e16
                have hne : ∀ (v : Value) (n : Nat) (xs : List Value) (W : World), W.ownsRow w'.heap.size 32 6 v n xs → (∀ b, v.ownBlock = some b → w'.heap.size ≤ b) ∧ (∀ b, v.ownBlock = some b → b ≠ rb) := fun v n xs W h =>
                  ⟨fun b hb => (h.lt b hb).1, fun b hb e => by have := (h.lt b hb).1; have := (old_ne R.rd).1; omega⟩
                cases ha : above L o with
                | true =>
                  rw [ha] at e16 hfin
                  simp only [if_true] at hfin
                  rw [hfin] at own
                  have hone := one_of_own own
                  simp [go_sem, e0, e1, e2, e14, e15, e16, e17, rd, hone]
                  refine ⟨rfl, v, ⟨by simp [go_sem, rd], own_keep (own_base own hbase) ((Upd.refl (fun b => b = rb) w2).setB _ _ (fun _ => rfl)) (hne _ _ _ _ own).2⟩, (hu.mono (fun _ _ h => h.elim)).setB _ _ (fun _ => rfl), (hne _ _ _ _ own).1⟩
                | false =>
                  rw [ha] at e16 hfin
                  simp only [Bool.false_eq_true, if_false] at hfin
                  have rd3 := (R.keep0 hu3).rd
                  have hone := one_of_own own3
                  simp [go_sem, e0, e1, e2, e14, e15, e16, e17, rd, hbs, K_append_ok _ _ _ _ hap1, rd3, hone]
                  have own3' : w3.ownsRow w'.heap.size 32 6 v1 (insL L o ⟨node, o, 1, false, 0, 0⟩).length ((insL L o ⟨node, o, 1, false, 0, 0⟩).flatMap HV.row) := by
                    rw [← hfin]
                    simp only [List.length_append, List.length_singleton, List.flatMap_append, List.flatMap_singleton, HV.row, HV.cells]
                    simpa [go_sem, HV.row, HV.cells] using own3
                  refine ⟨rfl, v1, ⟨by simp [go_sem, rd3], own_keep (own_base own3' hbase) ((Upd.refl (fun b => b = rb) w3).setB _ _ (fun _ => rfl)) (hne _ _ _ _ own3').2⟩, (hu3.mono (fun _ _ h => h.elim)).setB _ _ (fun _ => rfl), (hne _ _ _ _ own3').1⟩
          · have e : lv = 0 := by rw [hlv]; simp [giveLv, ho0, hw1, hg1]
            subst e
            clear hlv hgr
            simp [go_sem, hg1]
            refine den_loop (RGiveI rb L ⟨node, o, 0, false, 0, 0⟩ w') L.length ?_ ?_
            · refine ⟨0, _, rfl, Nat.zero_le _, ⟨by simp [go_sem], by simp [go_sem], by simp [go_sem], by simp [go_sem]⟩, by simp [go_sem], by simp [go_sem, above], rfl, Upd.refl _ _, ?_⟩
              simp [go_sem, insK, above]
              exact World.ownsRow_nil _ _ _ _
            · rintro m ρ w2 ⟨k, v, rfl, hk, ⟨e0, e1, e2, e14⟩, e17, e16, e15, hu, own⟩
              have R2 := R.keep0 hu
              have rd := R2.rd
              simp only at e1 e2 e14 e16 own
              have hl := insK_len (L.take k) o ⟨node, o, 0, false, 0, 0⟩
              rw [List.length_take, Nat.min_eq_left hk] at hl
              have hsz2 := hu.size
              have hbs := fun w K => slH.build1K (P := Try.prog) (w := w) (.agg #[.int .i64 node, .int .i64 o, .int .u8 0, .bool false, .int .u8 0, .int .i64 0]) rfl (by decide) K
              obtain ⟨v1, w3, hap1, own3, hg1, _⟩ := slH.append_all (own.alloc (.cells #[.int .i64 node, .int .i64 o, .int .u8 0, .bool false, .int .u8 0, .int .i64 0] 32)) 29 (b := w2.heap.size) (m := 1) (c := 1) (cs := #[.int .i64 node, .int .i64 o, .int .u8 0, .bool false, .int .u8 0, .int .i64 0]) (by rw [heap_alloc, if_pos rfl]) rfl (by simp [Value.oneCell']) (by omega) (by unfold maxLen; omega) (by simp; omega)
              have hu3 : Upd noB w' w3 := upd_append own (hu.alloc _) (Nat.le_refl _) hg1
              by_cases hlt : k < L.length
              · obtain ⟨b, oo, c, _, hi, hb, hsz, ⟨c0, c1, c2, c3, c4, c5⟩, _⟩ := R2.at k hlt
                have hrow := cut6 c0 c1 c2 c3 c4 c5
                have R3 := R.keep0 hu3
                have rd3 := R3.rd
                obtain ⟨b', oo', c', _, hi', hb', hsz', ⟨d0, d1, d2, d3, d4, d5⟩, _⟩ := R3.at k hlt
                have hrow' := cut6 d0 d1 d2 d3 d4 d5
                have ht : L.take (k + 1) = L.take k ++ [L[k]] := List.take_succ_eq_append_getElem hlt
                have habv : above (L.take k) o = true → o < L[k].opn := by
                  intro ha
                  obtain ⟨z, hz, hz2⟩ := List.any_eq_true.1 ha
                  obtain ⟨j, hj, rfl⟩ := List.getElem_of_mem hz
                  rw [List.length_take] at hj
                  rw [List.getElem_take] at hz2
                  have := List.pairwise_iff_getElem.1 hs j k (by omega) hlt (by omega)
                  simp at hz2
                  omega
                have hbl := (old_ne hb).1
                have hwr : IntKind.i64.wrap ((k : Int) + 1) = ((k + 1 : Nat) : Int) := wrap64_id (by omega) (by omega)
                generalize L[k] = y at *
                have hbs2 := fun w K => slH.build1K (P := Try.prog) (w := w) (.agg #[.int .i64 y.node, .int .i64 y.opn, .int .u8 y.level, .bool y.brk, .int .u8 y.to, .int .i64 y.since]) rfl (by decide) K
                obtain ⟨v2, w4, hap2, own4, hg2, _⟩ := slH.append_all (own.alloc (.cells #[.int .i64 y.node, .int .i64 y.opn, .int .u8 y.level, .bool y.brk, .int .u8 y.to, .int .i64 y.since] 32)) 29 (b := w2.heap.size) (m := 1) (c := 1) (cs := #[.int .i64 y.node, .int .i64 y.opn, .int .u8 y.level, .bool y.brk, .int .u8 y.to, .int .i64 y.since]) (by rw [heap_alloc, if_pos rfl]) rfl (by simp [Value.oneCell']) (by omega) (by unfold maxLen; omega) (by simp; omega)
                have hu4 : Upd noB w' w4 := upd_append own (hu.alloc _) (Nat.le_refl _) hg2
                have hyr : y.row = [.int .i64 y.node, .int .i64 y.opn, .int .u8 y.level, .bool y.brk, .int .u8 y.to, .int .i64 y.since] := rfl
                cases ha : above (L.take k) o with
                | true =>
                  have hy := habv ha
                  rw [ha] at e16
                  have hin := insK_more (l := L.take k) (o := o) ⟨node, o, 0, false, 0, 0⟩ y ha hy
                  rw [← ht] at hin
                  have hab : above (L.take (k + 1)) o = true := by rw [ht, above_snoc, ha]; rfl
                  simp [go_sem, e0, e1, e2, e14, e15, e16, e17, rd, hlt, hi, hb, hsz, hrow, hbs2, K_append_ok _ _ _ _ hap2]
                  refine ⟨L.length - (k + 1), by omega, k + 1, _, rfl, by omega, ⟨by simp [go_sem, e0], by simp [go_sem, e1], by simp [go_sem, e2], by simp [go_sem, e14]⟩, by simp [go_sem, hwr], by simp [go_sem, e16, hab], rfl, hu4, ?_⟩
                  simp only [hin, List.length_append, List.length_singleton, List.flatMap_append, List.flatMap_singleton, hyr]
                  simpa [go_sem] using own4
                | false =>
                  rw [ha] at e16
                  by_cases hy : o < y.opn
                  · have hin := insK_first (l := L.take k) (o := o) ⟨node, o, 0, false, 0, 0⟩ y ha hy
                    rw [← ht] at hin
                    have hlow := insK_low (l := L.take k) (o := o) ⟨node, o, 0, false, 0, 0⟩ ha
                    have hab : above (L.take (k + 1)) o = true := by rw [ht, above_snoc, ha]; simpa using hy
                    obtain ⟨v5, w5, hap5, own5, hg5, _⟩ := slH.append_all (own3.alloc (.cells #[.int .i64 y.node, .int .i64 y.opn, .int .u8 y.level, .bool y.brk, .int .u8 y.to, .int .i64 y.since] 32)) 29 (b := w3.heap.size) (m := 1) (c := 1) (cs := #[.int .i64 y.node, .int .i64 y.opn, .int .u8 y.level, .bool y.brk, .int .u8 y.to, .int .i64 y.since]) (by rw [heap_alloc, if_pos rfl]) rfl (by simp [Value.oneCell']) (by omega) (by unfold maxLen; omega) (by have := hu3.size; simp; omega)
                    have hu5 : Upd noB w' w5 := upd_append own3 (hu3.alloc _) (Nat.le_refl _) hg5
                    simp [go_sem, e0, e1, e2, e14, e15, e16, e17, rd, hlt, hi, hb, c1, hy, hbs, K_append_ok _ _ _ _ hap1, rd3, hi', hb', hsz', hrow', hbs2, K_append_ok _ _ _ _ hap5]
                    refine ⟨L.length - (k + 1), by omega, k + 1, _, rfl, by omega, ⟨by simp [go_sem, e0], by simp [go_sem, e1], by simp [go_sem, e2], by simp [go_sem, e14]⟩, by simp [go_sem, hwr], by simp [go_sem, hab], rfl, hu5, ?_⟩
                    rw [hlow] at own5
                    simp only [hin, List.length_append, List.length_singleton, List.flatMap_append, List.flatMap_singleton, hyr, HV.row, HV.cells]
                    simpa [go_sem] using own5
                  · have hin := insK_on (l := L.take k) (o := o) ⟨node, o, 0, false, 0, 0⟩ y ha hy
                    rw [← ht] at hin
                    have hab : above (L.take (k + 1)) o = false := by rw [ht, above_snoc, ha]; simpa using hy
                    simp [go_sem, e0, e1, e2, e14, e15, e16, e17, rd, hlt, hi, hb, hsz, hrow, hbs2, K_append_ok _ _ _ _ hap2, c1, hy]
                    refine ⟨L.length - (k + 1), by omega, k + 1, _, rfl, by omega, ⟨by simp [go_sem, e0], by simp [go_sem, e1], by simp [go_sem, e2], by simp [go_sem, e14]⟩, by simp [go_sem, hwr], by simp [go_sem, e16, hab], rfl, hu4, ?_⟩
                    simp only [hin, List.length_append, List.length_singleton, List.flatMap_append, List.flatMap_singleton, hyr]
                    simpa [go_sem] using own4
              · have hk' : k = L.length := by omega
                subst hk'
                have hfin := insK_all L o ⟨node, o, 0, false, 0, 0⟩
                simp only [List.take_length] at own hap1 own3 e16
                have hne : ∀ (v : Value) (n : Nat) (xs : List Value) (W : World), W.ownsRow w'.heap.size 32 6 v n xs → (∀ b, v.ownBlock = some b → w'.heap.size ≤ b) ∧ (∀ b, v.ownBlock = some b → b ≠ rb) := fun v n xs W h =>
                  ⟨fun b hb => (h.lt b hb).1, fun b hb e => by have := (h.lt b hb).1; have := (old_ne R.rd).1; omega⟩
                cases ha : above L o with
                | true =>
                  rw [ha] at e16 hfin
                  simp only [if_true] at hfin
                  rw [hfin] at own
                  have hone := one_of_own own
                  simp [go_sem, e0, e1, e2, e14, e15, e16, e17, rd, hone]
                  refine ⟨rfl, v, ⟨by simp [go_sem, rd], own_keep (own_base own hbase) ((Upd.refl (fun b => b = rb) w2).setB _ _ (fun _ => rfl)) (hne _ _ _ _ own).2⟩, (hu.mono (fun _ _ h => h.elim)).setB _ _ (fun _ => rfl), (hne _ _ _ _ own).1⟩
                | false =>
                  rw [ha] at e16 hfin
                  simp only [Bool.false_eq_true, if_false] at hfin
                  have rd3 := (R.keep0 hu3).rd
                  have hone := one_of_own own3
                  simp [go_sem, e0, e1, e2, e14, e15, e16, e17, rd, hbs, K_append_ok _ _ _ _ hap1, rd3, hone]
                  have own3' : w3.ownsRow w'.heap.size 32 6 v1 (insL L o ⟨node, o, 0, false, 0, 0⟩).length ((insL L o ⟨node, o, 0, false, 0, 0⟩).flatMap HV.row) := by
                    rw [← hfin]
                    simp only [List.length_append, List.length_singleton, List.flatMap_append, List.flatMap_singleton, HV.row, HV.cells]
                    simpa [go_sem, HV.row, HV.cells] using own3
                  refine ⟨rfl, v1, ⟨by simp [go_sem, rd3], own_keep (own_base own3' hbase) ((Upd.refl (fun b => b = rb) w3).setB _ _ (fun _ => rfl)) (hne _ _ _ _ own3').2⟩, (hu3.mono (fun _ _ h => h.elim)).setB _ _ (fun _ => rfl), (hne _ _ _ _ own3').1⟩
        · have e : lv = 0 := by rw [hlv]; simp [giveLv, ho0, hw1]
          subst e
          clear hlv hgr
          simp [go_sem, hw1]
          refine den_loop (RGiveI rb L ⟨node, o, 0, false, 0, 0⟩ w') L.length ?_ ?_
          · refine ⟨0, _, rfl, Nat.zero_le _, ⟨by simp [go_sem], by simp [go_sem], by simp [go_sem], by simp [go_sem]⟩, by simp [go_sem], by simp [go_sem, above], rfl, Upd.refl _ _, ?_⟩
            simp [go_sem, insK, above]
            exact World.ownsRow_nil _ _ _ _
          · rintro m ρ w2 ⟨k, v, rfl, hk, ⟨e0, e1, e2, e14⟩, e17, e16, e15, hu, own⟩
            have R2 := R.keep0 hu
            have rd := R2.rd
            simp only at e1 e2 e14 e16 own
            have hl := insK_len (L.take k) o ⟨node, o, 0, false, 0, 0⟩
            rw [List.length_take, Nat.min_eq_left hk] at hl
            have hsz2 := hu.size
            have hbs := fun w K => slH.build1K (P := Try.prog) (w := w) (.agg #[.int .i64 node, .int .i64 o, .int .u8 0, .bool false, .int .u8 0, .int .i64 0]) rfl (by decide) K
            obtain ⟨v1, w3, hap1, own3, hg1, _⟩ := slH.append_all (own.alloc (.cells #[.int .i64 node, .int .i64 o, .int .u8 0, .bool false, .int .u8 0, .int .i64 0] 32)) 29 (b := w2.heap.size) (m := 1) (c := 1) (cs := #[.int .i64 node, .int .i64 o, .int .u8 0, .bool false, .int .u8 0, .int .i64 0]) (by rw [heap_alloc, if_pos rfl]) rfl (by simp [Value.oneCell']) (by omega) (by unfold maxLen; omega) (by simp; omega)
            have hu3 : Upd noB w' w3 := upd_append own (hu.alloc _) (Nat.le_refl _) hg1
            by_cases hlt : k < L.length
            · obtain ⟨b, oo, c, _, hi, hb, hsz, ⟨c0, c1, c2, c3, c4, c5⟩, _⟩ := R2.at k hlt
              have hrow := cut6 c0 c1 c2 c3 c4 c5
              have R3 := R.keep0 hu3
              have rd3 := R3.rd
              obtain ⟨b', oo', c', _, hi', hb', hsz', ⟨d0, d1, d2, d3, d4, d5⟩, _⟩ := R3.at k hlt
              have hrow' := cut6 d0 d1 d2 d3 d4 d5
              have ht : L.take (k + 1) = L.take k ++ [L[k]] := List.take_succ_eq_append_getElem hlt
              have habv : above (L.take k) o = true → o < L[k].opn := by
                intro ha
                obtain ⟨z, hz, hz2⟩ := List.any_eq_true.1 ha
                obtain ⟨j, hj, rfl⟩ := List.getElem_of_mem hz
                rw [List.length_take] at hj
                rw [List.getElem_take] at hz2
                have := List.pairwise_iff_getElem.1 hs j k (by omega) hlt (by omega)
                simp at hz2
                omega
              have hbl := (old_ne hb).1
              have hwr : IntKind.i64.wrap ((k : Int) + 1) = ((k + 1 : Nat) : Int) := wrap64_id (by omega) (by omega)
              generalize L[k] = y at *
              have hbs2 := fun w K => slH.build1K (P := Try.prog) (w := w) (.agg #[.int .i64 y.node, .int .i64 y.opn, .int .u8 y.level, .bool y.brk, .int .u8 y.to, .int .i64 y.since]) rfl (by decide) K
              obtain ⟨v2, w4, hap2, own4, hg2, _⟩ := slH.append_all (own.alloc (.cells #[.int .i64 y.node, .int .i64 y.opn, .int .u8 y.level, .bool y.brk, .int .u8 y.to, .int .i64 y.since] 32)) 29 (b := w2.heap.size) (m := 1) (c := 1) (cs := #[.int .i64 y.node, .int .i64 y.opn, .int .u8 y.level, .bool y.brk, .int .u8 y.to, .int .i64 y.since]) (by rw [heap_alloc, if_pos rfl]) rfl (by simp [Value.oneCell']) (by omega) (by unfold maxLen; omega) (by simp; omega)
              have hu4 : Upd noB w' w4 := upd_append own (hu.alloc _) (Nat.le_refl _) hg2
              have hyr : y.row = [.int .i64 y.node, .int .i64 y.opn, .int .u8 y.level, .bool y.brk, .int .u8 y.to, .int .i64 y.since] := rfl
              cases ha : above (L.take k) o with
              | true =>
                have hy := habv ha
                rw [ha] at e16
                have hin := insK_more (l := L.take k) (o := o) ⟨node, o, 0, false, 0, 0⟩ y ha hy
                rw [← ht] at hin
                have hab : above (L.take (k + 1)) o = true := by rw [ht, above_snoc, ha]; rfl
                simp [go_sem, e0, e1, e2, e14, e15, e16, e17, rd, hlt, hi, hb, hsz, hrow, hbs2, K_append_ok _ _ _ _ hap2]
                refine ⟨L.length - (k + 1), by omega, k + 1, _, rfl, by omega, ⟨by simp [go_sem, e0], by simp [go_sem, e1], by simp [go_sem, e2], by simp [go_sem, e14]⟩, by simp [go_sem, hwr], by simp [go_sem, e16, hab], rfl, hu4, ?_⟩
                simp only [hin, List.length_append, List.length_singleton, List.flatMap_append, List.flatMap_singleton, hyr]
                simpa [go_sem] using own4
              | false =>
                rw [ha] at e16
                by_cases hy : o < y.opn
                · have hin := insK_first (l := L.take k) (o := o) ⟨node, o, 0, false, 0, 0⟩ y ha hy
                  rw [← ht] at hin
                  have hlow := insK_low (l := L.take k) (o := o) ⟨node, o, 0, false, 0, 0⟩ ha
                  have hab : above (L.take (k + 1)) o = true := by rw [ht, above_snoc, ha]; simpa using hy
                  obtain ⟨v5, w5, hap5, own5, hg5, _⟩ := slH.append_all (own3.alloc (.cells #[.int .i64 y.node, .int .i64 y.opn, .int .u8 y.level, .bool y.brk, .int .u8 y.to, .int .i64 y.since] 32)) 29 (b := w3.heap.size) (m := 1) (c := 1) (cs := #[.int .i64 y.node, .int .i64 y.opn, .int .u8 y.level, .bool y.brk, .int .u8 y.to, .int .i64 y.since]) (by rw [heap_alloc, if_pos rfl]) rfl (by simp [Value.oneCell']) (by omega) (by unfold maxLen; omega) (by have := hu3.size; simp; omega)
                  have hu5 : Upd noB w' w5 := upd_append own3 (hu3.alloc _) (Nat.le_refl _) hg5
                  simp [go_sem, e0, e1, e2, e14, e15, e16, e17, rd, hlt, hi, hb, c1, hy, hbs, K_append_ok _ _ _ _ hap1, rd3, hi', hb', hsz', hrow', hbs2, K_append_ok _ _ _ _ hap5]
                  refine ⟨L.length - (k + 1), by omega, k + 1, _, rfl, by omega, ⟨by simp [go_sem, e0], by simp [go_sem, e1], by simp [go_sem, e2], by simp [go_sem, e14]⟩, by simp [go_sem, hwr], by simp [go_sem, hab], rfl, hu5, ?_⟩
                  rw [hlow] at own5
                  simp only [hin, List.length_append, List.length_singleton, List.flatMap_append, List.flatMap_singleton, hyr, HV.row, HV.cells]
                  simpa [go_sem] using own5
                · have hin := insK_on (l := L.take k) (o := o) ⟨node, o, 0, false, 0, 0⟩ y ha hy
                  rw [← ht] at hin
                  have hab : above (L.take (k + 1)) o = false := by rw [ht, above_snoc, ha]; simpa using hy
                  simp [go_sem, e0, e1, e2, e14, e15, e16, e17, rd, hlt, hi, hb, hsz, hrow, hbs2, K_append_ok _ _ _ _ hap2, c1, hy]
                  refine ⟨L.length - (k + 1), by omega, k + 1, _, rfl, by omega, ⟨by simp [go_sem, e0], by simp [go_sem, e1], by simp [go_sem, e2], by simp [go_sem, e14]⟩, by simp [go_sem, hwr], by simp [go_sem, e16, hab], rfl, hu4, ?_⟩
                  simp only [hin, List.length_append, List.length_singleton, List.flatMap_append, List.flatMap_singleton, hyr]
                  simpa [go_sem] using own4
            · have hk' : k = L.length := by omega
              subst hk'
              have hfin := insK_all L o ⟨node, o, 0, false, 0, 0⟩
              simp only [List.take_length] at own hap1 own3 e16
              have hne : ∀ (v : Value) (n : Nat) (xs : List Value) (W : World), W.ownsRow w'.heap.size 32 6 v n xs → (∀ b, v.ownBlock = some b → w'.heap.size ≤ b) ∧ (∀ b, v.ownBlock = some b → b ≠ rb) := fun v n xs W h =>
                ⟨fun b hb => (h.lt b hb).1, fun b hb e => by have := (h.lt b hb).1; have := (old_ne R.rd).1; omega⟩
              cases ha : above L o with
              | true =>
                rw [ha] at e16 hfin
                simp only [if_true] at hfin
                rw [hfin] at own
                have hone := one_of_own own
                simp [go_sem, e0, e1, e2, e14, e15, e16, e17, rd, hone]
                refine ⟨rfl, v, ⟨by simp [go_sem, rd], own_keep (own_base own hbase) ((Upd.refl (fun b => b = rb) w2).setB _ _ (fun _ => rfl)) (hne _ _ _ _ own).2⟩, (hu.mono (fun _ _ h => h.elim)).setB _ _ (fun _ => rfl), (hne _ _ _ _ own).1⟩
              | false =>
                rw [ha] at e16 hfin
                simp only [Bool.false_eq_true, if_false] at hfin
                have rd3 := (R.keep0 hu3).rd
                have hone := one_of_own own3
                simp [go_sem, e0, e1, e2, e14, e15, e16, e17, rd, hbs, K_append_ok _ _ _ _ hap1, rd3, hone]
                have own3' : w3.ownsRow w'.heap.size 32 6 v1 (insL L o ⟨node, o, 0, false, 0, 0⟩).length ((insL L o ⟨node, o, 0, false, 0, 0⟩).flatMap HV.row) := by
                  rw [← hfin]
                  simp only [List.length_append, List.length_singleton, List.flatMap_append, List.flatMap_singleton, HV.row, HV.cells]
                  simpa [go_sem, HV.row, HV.cells] using own3
                refine ⟨rfl, v1, ⟨by simp [go_sem, rd3], own_keep (own_base own3' hbase) ((Upd.refl (fun b => b = rb) w3).setB _ _ (fun _ => rfl)) (hne _ _ _ _ own3').2⟩, (hu3.mono (fun _ _ h => h.elim)).setB _ _ (fun _ => rfl), (hne _ _ _ _ own3').1⟩
end Go.Proofs.Ytnelmicecaggoaa
