import Derived.Test.YtnelmicecaggoaaHoldC
namespace Go.Proofs.Ytnelmicecaggoaa
open Go.Eng
set_option linter.unusedSimpArgs false
set_option maxRecDepth 100000
theorem give_bad {w : World} {hb mb : Nat} {E : List (HV × Nat)} (R : HoldsRep w hb mb E) (node o want others : Int) (locked : Bool) (h : 3 < want ∨ node < 1 ∨ o < 1 ∨ others < 0) :
    CallP Try.prog 28 #[ptrOf hb, .int .i64 node, .int .i64 o, .int .u8 want, .int .i64 others, .bool locked] w (fun v w' => v = .tuple #[.int .u8 0, .int .i64 2] ∧ w' = w) := by
  refine call_den (args := [_, _, _, _, _, _]) Try.func28 rfl rfl (by simp [Try.ntmps28]) ?_
  simp [go_sem]
  refine off_any hb mb w R.hd _ ?_
  by_cases h1 : 3 < want
  · simp [go_sem, h1]
  · by_cases h2 : node < 1
    · simp [go_sem, h1, h2]
    · by_cases h3 : o < 1
      · simp [go_sem, h1, h2, h3]
      · have h4 : others < 0 := by omega
        simp [go_sem, h1, h2, h3, h4]
theorem give_twice {w : World} {hb mb : Nat} {E : List (HV × Nat)} (R : HoldsRep w hb mb E) (node o want others : Int) (locked : Bool) (h : ¬ (3 < want ∨ node < 1 ∨ o < 1 ∨ others < 0)) {x : HV × Nat} (hx : findE E o = some x) :
    CallP Try.prog 28 #[ptrOf hb, .int .i64 node, .int .i64 o, .int .u8 want, .int .i64 others, .bool locked] w (fun v w' => v = .tuple #[.int .u8 0, .int .i64 8] ∧ w' = w) := by
  have hl := lookupMap_run (P := Try.prog) (t := 60) R.mp Try.underlying60 Try.underlying3 (.pointer none) (Try.zeroValue69 w) o
  rw [lookupE, hx] at hl
  have hd := R.hd
  have h1 : ¬ 3 < want := by omega
  have h2 : ¬ node < 1 := by omega
  have h3 : ¬ o < 1 := by omega
  have h4 : ¬ others < 0 := by omega
  refine call_den (args := [_, _, _, _, _, _]) Try.func28 rfl rfl (by simp [Try.ntmps28]) ?_
  simp [go_sem]
  refine off_any hb mb w R.hd _ ?_
  simp [go_sem, hd, h1, h2, h3, h4, K_lookup_ok _ _ _ _ _ hl]
/-! ### Must -/
def mustP (node o to : Int) (h : HV) : Bool := decide (h.node = node) && (decide (h.opn ≠ o) && decide (to < h.level))
theorem mustWant (b c1 c2 c3 : Nat) (x : HV) (node o to : Int) (w : World) {t1 t2 t3 : TypeId} (hc : w.heap[b]? = some (.cells x.cells 32 (0, 0))) (h1 : w.heap[c1]? = some (.cells #[.int .i64 node] t1 (0, 0))) (h2 : w.heap[c2]? = some (.cells #[.int .i64 o] t2 (0, 0))) (h3 : w.heap[c3]? = some (.cells #[.int .u8 to] t3 (0, 0))) :
    CallP Try.prog 34 #[ptrOf b, ptrOf c1, ptrOf c2, ptrOf c3] w (fun v w' => v = .bool (mustP node o to x) ∧ Upd noB w w') := by
  unfold HV.cells at hc
  refine call_den (args := [_, _, _, _]) Try.func34 rfl rfl (by simp [Try.ntmps34]) ?_
  simp [go_sem]
  refine draw_reads (by kernel_rfl) (by kernel_rfl) (by kernel_rfl) ?_
  unfold mustP
  by_cases g1 : x.node = node
  · by_cases g2 : x.opn = o
    · simp [go_sem, hc, h1, h2, h3, g1, g2]
      intro i; exact (Upd.refl _ _).drewN _
    · by_cases g3 : to < x.level
      · simp [go_sem, hc, h1, h2, h3, g1, g2, g3]
        intro i; exact (Upd.refl _ _).drewN _
      · simp [go_sem, hc, h1, h2, h3, g1, g2, g3]
        intro i; exact (Upd.refl _ _).drewN _
  · simp [go_sem, hc, h1, h2, h3, g1]
    intro i; exact (Upd.refl _ _).drewN _
theorem slBreak : SlT Try.prog 34 40 2 16 :=
  SlT.mk' Try.underlying34 (i := Try.t40) (z := .agg #[.int .i64 0, .int .u8 0]) (by kernel_rfl) (by kernel_rfl) (by kernel_rfl) (by kernel_rfl) rfl (by decide)
def brk2 (to : Int) (x : HV × Nat) : List Value := [.int .i64 x.1.opn, .int .u8 to]
def MustI (w1 : World) (F : List (HV × Nat)) (vs : Value) (to : Int) (tb : Nat) (m : Nat) (ρ : Env) (w' : World) : Prop :=
  ∃ (k : Nat) (v : Value), m = F.length - k ∧ k ≤ F.length ∧ ρ 10 = v ∧ ρ 9 = .pointer (some ⟨tb, 0, none⟩) ∧ ρ 23 = vs ∧ ρ 24 = .int .i64 F.length ∧ ρ 25 = .int .i64 k ∧ Upd noB w1 w' ∧
    w'.ownsRow w1.heap.size 40 2 v k ((F.take k).flatMap (brk2 to))
def MustOut (w : World) (E : List (HV × Nat)) (p : HV → Bool) (to : Int) (v : Value) (w' : World) : Prop :=
  Upd noB w w' ∧ ∃ F : List (HV × Nat), F.Perm (E.filter fun x => p x.1) ∧ F.Pairwise (fun x y => x.1.opn < y.1.opn) ∧ w'.ownsRow w.heap.size 40 2 v F.length (F.flatMap (brk2 to))
def toOf (why : Int) : Int := if why = 1 then 1 else 0
theorem must_any {w : World} {hb mb : Nat} {E : List (HV × Nat)} (R : HoldsRep w hb mb E) (hO : ∀ x, x ∈ E → 1 ≤ x.1.opn ∧ x.1.opn < 9223372036854775808) (hlen : E.length ≤ 1048576) (node o why : Int) (hwhy : why = 1 ∨ why = 2 ∨ why = 3) :
    CallP Try.prog 14 #[ptrOf hb, .int .i64 node, .int .i64 o, .int .u8 why] w (MustOut w E (mustP node o (toOf why)) (toOf why)) := by
  have hz := Try.zeroValue5
  obtain ⟨to, hto0⟩ : ∃ to, to = toOf why := ⟨_, rfl⟩
  rw [← hto0]
  refine call_den (args := [_, _, _, _]) Try.func14 rfl rfl (by simp [Try.ntmps14]) ?_
  simp [go_sem]
  refine off_any hb mb _ (by rw [heap_alloc, heap_alloc, if_neg, if_neg]; exact R.hd; exact (old_ne R.hd).2.1; simp; exact (old_ne R.hd).2.2 1) _ ?_
  simp [go_sem]
  have hto : ∀ W : World, Upd noB w W → w.heap.size + 3 ≤ W.heap.size → W.heap[w.heap.size]? = some (.cells #[.int .i64 node] 3 (0, 0)) → W.heap[w.heap.size + 1]? = some (.cells #[.int .i64 o] 3 (0, 0)) → W.heap[w.heap.size + 2]? = some (.cells #[.int .u8 to] 5 (0, 0)) →
      ∀ (k : Value → World → Prop), (∀ v W', SortedOut W E (mustP node o to) v W' → k v W') → CallP Try.prog 32 #[ptrOf hb, .func (.func 34) #[] #[.pointer (some ⟨w.heap.size, 0, none⟩), .pointer (some ⟨w.heap.size + 1, 0, none⟩), .pointer (some ⟨w.heap.size + 1 + 1, 0, none⟩)]] W k := by
    intro W hu hsz c1 c2 c3 k hk
    refine CallP.mono (sorted_any (R.keep0 hu) hO hlen _ _ (mustP node o to) (by intro args w; exact Try.call34 args w) (fun x hx w' hu' => ?_)) hk
    exact mustWant x.2 _ _ _ x.1 node o to w' (hu'.get ((R.keep0 hu).cells x hx) (by simp [noB])) (hu'.get c1 (by simp [noB])) (hu'.get c2 (by simp [noB])) (hu'.get c3 (by simp [noB]))
  rcases hwhy with rfl | rfl | rfl
  all_goals
    simp [go_sem]
    have e1 := hto0
    simp [toOf] at e1
    refine hto _ (by repeat (first | exact Upd.refl _ _ | refine Upd.alloc ?_ _ | refine Upd.drew ?_ | refine Upd.drewN ?_ _ | refine Upd.setB ?_ _ _ (fun h => absurd h (by omega)))) (by simp [size_setB]) (by simp only [heap_setB, heap_alloc, heap_drew, heap_drewN, size_setB, World.size_alloc]; (repeat (first | rw [if_pos trivial] | rw [if_pos (by omega)] | rw [if_neg (by omega)])); try rfl) (by simp only [heap_setB, heap_alloc, heap_drew, heap_drewN, size_setB, World.size_alloc]; (repeat (first | rw [if_pos trivial] | rw [if_pos (by omega)] | rw [if_neg (by omega)])); try rfl) (by rw [e1]; exact (by simp only [heap_setB, heap_alloc, heap_drew, heap_drewN, size_setB, World.size_alloc]; (repeat (first | rw [if_pos trivial] | rw [if_pos (by omega)] | rw [if_neg (by omega)])); try rfl)) _ ?_
    rintro vs w1 ⟨hu1, F, hF, hs, own⟩
    have row := RowAt.of_own own
    obtain ⟨q, cap, rfl⟩ := row.len
    have hu2 : Upd noB w w1 := Upd.trans (by repeat (first | exact Upd.refl _ _ | refine Upd.alloc ?_ _ | refine Upd.drew ?_ | refine Upd.drewN ?_ _ | refine Upd.setB ?_ _ _ (fun h => absurd h (by omega)))) hu1
    have hFl : F.length ≤ 1048576 := by rw [hF.length_eq]; exact Nat.le_trans (List.length_filter_le _ _) hlen
    have hcells : ∀ x, x ∈ F → w1.heap[x.2]? = some (.cells x.1.cells 32 (0, 0)) := fun x hx => hu2.get (R.cells x (List.mem_filter.1 (hF.mem_iff.1 hx)).1) (by simp [noB])
    have c3 : w1.heap[w.heap.size + 1 + 1]? = some (.cells #[.int .u8 to] 5 (0, 0)) := by rw [e1]; exact hu1.get (by simp only [heap_setB, heap_alloc, heap_drew, heap_drewN, size_setB, World.size_alloc]; (repeat (first | rw [if_pos trivial] | rw [if_pos (by omega)] | rw [if_neg (by omega)])); try rfl) (by simp [noB])
    clear hto hu1 hto0 e1
    simp [go_sem]
    refine den_loop (MustI w1 F (.slice q F.length cap) to (w.heap.size + 1 + 1)) F.length ?_ ?_
    · refine ⟨0, _, rfl, Nat.zero_le _, rfl, ?_, ?_, ?_, ?_, Upd.refl _ _, ?_⟩ <;> simp [go_sem]
      exact World.ownsRow_nil _ _ _ _
    · rintro m ρ w' ⟨k, v, rfl, hk, h10, h9, h23, h24, h25, hu3, own1⟩
      by_cases hlt : k < F.length
      · have hx : (F.map fun x => ptrOf x.2)[k]? = some (ptrOf F[k].2) := by simp [hlt]
        obtain ⟨p, hi, _, hl⟩ := (row.keep hu3 (by simp [noB])).at1 (P := Try.prog) (t := 67) (e := 69) Try.underlying67 Try.sizeOf69 Try.isAgg69 k hlt _ hx
        have hc : w'.heap[F[k].2]? = some (.cells F[k].1.cells 32 (0, 0)) := hu3.get (hcells _ (List.getElem_mem hlt)) (by simp [noB])
        have ct := hu3.get c3 (by simp [noB])
        have hd : (F.take (k + 1)).flatMap (brk2 to) = (F.take k).flatMap (brk2 to) ++ brk2 to F[k] := by
          rw [List.take_succ_eq_append_getElem hlt, List.flatMap_append]; simp
        generalize F[k] = x at *
        have hbs := fun w K => slBreak.build1K (P := Try.prog) (w := w) (.agg #[.int .i64 x.1.opn, .int .u8 to]) rfl (by decide) K
        have own2 := World.ownsRow.drew (own1.alloc (.cells #[.int .i64 x.1.opn, .int .u8 to] 40))
        obtain ⟨v', w5, hap, own5, hgr, _⟩ := slBreak.append_all own2 34 (b := w'.heap.size) (m := 1) (c := 1) (cs := #[.int .i64 x.1.opn, .int .u8 to]) (by rw [heap_drew, heap_alloc, if_pos rfl]) rfl (by simp [Value.oneCell']) (by omega) (by unfold maxLen; omega) (by have := hu3.size; simp; omega)
        unfold HV.cells at hc
        simp [go_sem, h9, h10, h23, h24, h25, hlt, hi, hl]
        refine draw_script [.pure 0, .pure 1, .still [2, 3, 4, 5, 6], .one 7, .one 8, .one 9] (by kernel_rfl) (by kernel_rfl) (by kernel_rfl) ?_
        simp [go_sem, h9, h10, h23, h24, h25, hc, ct, hbs, K_append_ok _ _ _ _ hap]
        refine ⟨F.length - (k + 1), by omega, k + 1, _, rfl, by omega, rfl, ?_, ?_, ?_, ?_, upd_append own1 (hu3.alloc _).drew (Nat.le_refl _) hgr, by rw [hd]; simpa [go_sem, brk2] using own5⟩ <;> simp [go_sem, h9, h23, h24, h25]
        exact wrap64_id (by omega) (by omega)
      · have hk' : k = F.length := by omega
        subst hk'
        simp [go_sem, h9, h10, h23, h24, h25]
        refine ⟨hu2.trans hu3, F, hF, hs, ?_⟩
        rw [List.take_length] at own1
        exact own_base own1 hu2.size
end Go.Proofs.Ytnelmicecaggoaa
