import Derived.Test.YtnelmicecaggoaaHoldT
namespace Go.Proofs.Ytnelmicecaggoaa
open Go.Eng
set_option linter.unusedSimpArgs false
set_option linter.unusedVariables false
set_option maxRecDepth 100000
theorem row_one (L : List HV) : ∀ u ∈ L.flatMap HV.row, u.oneCell' = true := by
  intro u hu
  obtain ⟨x, _, hx⟩ := List.mem_flatMap.1 hu
  simp [HV.row, HV.cells] at hx
  rcases hx with rfl | rfl | rfl | rfl | rfl | rfl <;> rfl
theorem rows_take (L : List HV) (i : Nat) (hi : i ≤ L.length) : (L.flatMap HV.row).take (i * 6) = (L.take i).flatMap HV.row := by
  have h := flat_len HV.row 6 HV.row_len (L.take i)
  rw [List.length_take, Nat.min_eq_left hi] at h
  conv => lhs; rw [← List.take_append_drop i L, List.flatMap_append]
  rw [List.take_append_of_le_length (by omega), List.take_of_length_le (by omega)]
theorem rows_drop (L : List HV) (i : Nat) (hi : i ≤ L.length) : (L.flatMap HV.row).drop (i * 6) = (L.drop i).flatMap HV.row := by
  have h := flat_len HV.row 6 HV.row_len (L.take i)
  rw [List.length_take, Nat.min_eq_left hi] at h
  conv => lhs; rw [← List.take_append_drop i L, List.flatMap_append]
  rw [← h, List.drop_left]
def dropL (L : List HV) (o : Int) : List HV := L.filter fun x => x.opn != o
theorem dropL_none {L : List HV} {o : Int} (h : ∀ x, x ∈ L → x.opn ≠ o) : dropL L o = L := List.filter_eq_self.2 fun x hx => by simpa using h x hx
theorem dropL_at {L : List HV} (hs : Srt L) (i : Nat) (hi : i < L.length) {o : Int} (ho : L[i].opn = o) : L.take i ++ L.drop (i + 1) = dropL L o := by
  have h1 : L = L.take i ++ L[i] :: L.drop (i + 1) := by
    rw [← List.drop_eq_getElem_cons hi, List.take_append_drop]
  unfold dropL
  conv => rhs; rw [h1]
  rw [List.filter_append, List.filter_cons]
  have h2 : (L[i].opn != o) = false := by simp [ho]
  rw [h2]
  simp only [Bool.false_eq_true, if_false]
  rw [List.filter_eq_self.2, List.filter_eq_self.2]
  · intro x hx
    obtain ⟨j, hj, rfl⟩ := List.getElem_of_mem hx
    rw [List.getElem_drop]
    have hj' : i + 1 + j < L.length := by rw [List.length_drop] at hj; omega
    have := List.pairwise_iff_getElem.1 hs i (i + 1 + j) hi hj' (by omega)
    simp; omega
  · intro x hx
    obtain ⟨j, hj, rfl⟩ := List.getElem_of_mem hx
    rw [List.getElem_take]
    rw [List.length_take] at hj
    have := List.pairwise_iff_getElem.1 hs j i (by omega) hi (by omega)
    simp; omega
theorem own_row (t e : TypeId) {base size : Nat} {v : Value} {n : Nat} {w : World} {xs : List Value} (h : w.ownsRow base e size v n xs) : v = .slice none 0 0 ∨ ∃ b q cap, v = .slice (some ⟨b, 0, none⟩) q cap := by
  rcases h.2 with ⟨h, _⟩ | ⟨b, cap, cur, h, _⟩
  · exact Or.inl h
  · exact Or.inr ⟨b, n, cap, h⟩
theorem one_of_own {base size : Nat} {e : TypeId} {v : Value} {n : Nat} {w : World} {xs : List Value} (h : w.ownsRow base e size v n xs) : v.oneCell' = true := by
  rcases h.2 with ⟨h, _⟩ | ⟨b, cap, cur, h, _⟩ <;> rw [h] <;> rfl
theorem refDrop_any {w : World} {base rb : Nat} {v : Value} {L : List HV} (R : RefRep w base rb v L) (hs : Srt L) (hlen : L.length ≤ 1048576) (hbase : base ≤ w.heap.size) (o : Int) :
    CallP Try.prog 38 #[ptrOf rb, .int .i64 o] w (fun r w' => r = .bool (findL L o).isSome ∧ ∃ v', RefRep w' base rb v' (dropL L o) ∧ Upd (fun b => b = rb) w w' ∧ (v' = v ∨ ∀ b, v'.ownBlock = some b → w.heap.size ≤ b)) := by
  have rd := R.rd
  refine call_den (args := [_, _]) Try.func38 rfl rfl (by simp [Try.ntmps38]) ?_
  simp [go_sem]
  refine CallP.mono (refAt_any R hlen o) ?_
  rintro r w' ⟨⟨i, hi, ho, rfl⟩ | ⟨hno, rfl⟩, rfl⟩
  · have hi0 : ¬ ((i : Int) < 0) := by omega
    have hfind := findL_at hs i hi ho
    have hdrop := dropL_at hs i hi ho
    rcases R.own.2 with ⟨_, hn⟩ | ⟨b, cap, cur, rfl, hbb, hb, hnc, hcap, hcs, htake⟩
    · exact absurd hn (by omega)
    · have hle : L.length * 6 ≤ cap * 6 := Nat.mul_le_mul_right _ hnc
      have hsl := fun w => run_slice_le (P := Try.prog) (w := w) Try.underlying29 Try.sizeOf32 b 0 L.length cap 0 i none (some (.int .i64 i)) (Or.inl ⟨rfl, rfl⟩) (Or.inr ⟨.i64, rfl⟩) (by omega) (by omega)
      have hwr : IntKind.i64.wrap ((i : Int) + 1) = ((i + 1 : Nat) : Int) := wrap64_id (by omega) (by omega)
      have hsl2 := fun w => run_slice_le (P := Try.prog) (w := w) Try.underlying29 Try.sizeOf32 b 0 L.length cap (i + 1) L.length (some (.int .i64 ((i + 1 : Nat) : Int))) none (Or.inr ⟨.i64, rfl⟩) (Or.inl ⟨rfl, rfl⟩) (by omega) hnc
      rw [if_neg (by omega)] at hsl
      simp only [Nat.zero_mul, Nat.add_zero, Nat.sub_zero, Nat.zero_add] at hsl hsl2
      push_cast at hsl2 hwr
      have n1 : (L.take i).flatMap HV.row = (cur.toList.drop 0).take (i * 6) := by
        rw [List.drop_zero, ← rows_take L i (by omega), ← htake, List.take_take, Nat.min_eq_left (Nat.mul_le_mul_right _ (by omega))]
      obtain ⟨v1, w1, hap1, own1, hg1, hnil1⟩ := slH.append (P := Try.prog) (w := w') (World.ownsRow_nil w' w'.heap.size 32 6) 29 (b := b) (o := 0) (m := i) (c := cap) (cs := cur) hb _ n1 (by omega) (row_one _) (by omega) (by unfold maxLen; omega) (Nat.le_refl _)
      have hbne : some b ≠ (none : Option Nat) := by simp
      have hlt := (old_ne hb).1
      have hb1 : w1.heap[b]? = some (.cells cur 32 (0, 0)) := by rw [hg1.block b hlt (by simp [Value.ownBlock])]; exact hb
      have rd1 : w1.heap[rb]? = some (.cells #[.slice (some ⟨b, 0, none⟩) L.length cap] 46 (0, 0)) := by rw [hg1.block rb (old_ne rd).1 (by simp [Value.ownBlock])]; exact rd
      have n2 : (L.drop (i + 1)).flatMap HV.row = (cur.toList.drop (if cap = i + 1 then 0 else (i + 1) * 6)).take ((L.length - (i + 1)) * 6) := by
        by_cases hc : cap = i + 1
        · have : L.length = i + 1 := by omega
          rw [List.drop_eq_nil_of_le (by omega), show L.length - (i + 1) = 0 by omega]
          simp
        · rw [if_neg hc, ← rows_drop L (i + 1) (by omega), ← htake, List.drop_take]
          congr 1
          omega
      obtain ⟨v2, w2, hap2, own2, hg2, hnil2⟩ := slH.append (P := Try.prog) own1 29 (b := b) (o := if cap = i + 1 then 0 else (i + 1) * 6) (m := L.length - (i + 1)) (c := cap - (i + 1)) (cs := cur) hb1 _ n2 (by split <;> omega) (row_one _) (by omega) (by unfold maxLen; omega) (by have := hg1.size; omega)
      have hv1 : ∀ b, v1.ownBlock = some b → w'.heap.size ≤ b := fun b hb => (own1.lt b hb).1
      have hb2 : w2.heap[b]? = some (.cells cur 32 (0, 0)) := by rw [hg2.block b (by have := hg1.size; omega) (fun e => by have := hv1 _ e.symm; omega)]; exact hb1
      have rd2 : w2.heap[rb]? = some (.cells #[.slice (some ⟨b, 0, none⟩) L.length cap] 46 (0, 0)) := by rw [hg2.block rb (by have := hg1.size; have := (old_ne rd).1; omega) (fun e => by have := hv1 _ e.symm; have := (old_ne rd).1; omega)]; exact rd1
      have hone := one_of_own own2
      have hv2 : ∀ b, v2.ownBlock = some b → w'.heap.size ≤ b := fun b hb => (own2.lt b hb).1
      have hu1 : Upd noB w' w1 := (Upd.refl _ _).grown hg1 (fun b hb _ => by simp [Value.ownBlock] at hb)
      have hu2 : Upd noB w' w2 := hu1.grown hg2 (fun b hb hlt => by have := hv1 _ hb; omega)
      simp [go_sem, rd, hi0, hsl, K_append_ok _ _ _ _ hap1, rd1, hwr, hsl2, K_append_ok _ _ _ _ hap2, rd2, hone, hfind]
      refine ⟨v2, ⟨?_, ?_⟩, ?_, Or.inr hv2⟩
      · simp [go_sem, rd2]
      · have hrb : ∀ b, v2.ownBlock = some b → b ≠ rb := fun b hb e => by have := hv2 b hb; have := (old_ne rd).1; omega
        rw [← hdrop]
        have hl : (L.take i ++ L.drop (i + 1)).length = 0 + i + (L.length - (i + 1)) := by simp; omega
        rw [hl, List.flatMap_append]
        rw [List.nil_append] at own2
        exact own_keep (own_base own2 hbase) ((Upd.refl (fun b => b = rb) w2).setB _ _ (fun _ => rfl)) hrb
      · exact (hu2.mono (fun _ _ h => h.elim)).setB _ _ (fun _ => rfl)
  · simp [go_sem, findL_none hno, dropL_none hno]
    exact ⟨v, R, Upd.refl _ _, Or.inl rfl⟩
end Go.Proofs.Ytnelmicecaggoaa
