/-
  The reference's holds (refectoryref20): a list of holds, by rising opens.
-/
import Derived.Test.YtnelmicecaggoaaHoldE
namespace Go.Proofs.Ytnelmicecaggoaa
open Go.Eng
set_option linter.unusedSimpArgs false
set_option maxRecDepth 100000
def HV.row (h : HV) : List Value := h.cells.toList
theorem HV.row_len (h : HV) : h.row.length = 6 := (rfl)
theorem row_get (L : List HV) (k j : Nat) (hk : k < L.length) (hj : j < 6) : (L.flatMap HV.row)[k * 6 + j]? = L[k].row[j]? := by
  have h := flat_at HV.row 6 HV.row_len L k hk
  have h2 := congrArg (fun l => l[j]?) h
  simp only [List.getElem?_take, if_pos hj, List.getElem?_drop] at h2
  exact h2
theorem row_set (c c' : Array Value) (L : List HV) (i : Nat) (hi : i < L.length) (h : HV) (hc : c.toList.take (L.length * 6) = L.flatMap HV.row) (hout : ∀ j, (j < i * 6 ∨ i * 6 + 6 ≤ j) → c'[j]? = c[j]?) (hin : ∀ j, j < 6 → c'[i * 6 + j]? = h.cells[j]?) :
    c'.toList.take ((L.set i h).length * 6) = (L.set i h).flatMap HV.row := by
  apply List.ext_getElem?
  intro j
  rw [List.length_set]
  by_cases hj : j < L.length * 6
  · have hjk : j = j / 6 * 6 + j % 6 := by omega
    have hk : j / 6 < L.length := by omega
    have hm : j % 6 < 6 := by omega
    rw [List.getElem?_take, if_pos hj, Array.getElem?_toList]
    rw [hjk, row_get _ _ _ (by simpa using hk) hm]
    by_cases he : j / 6 = i
    · subst he
      rw [hin _ hm]
      simp [HV.row]
    · rw [hout _ (by omega)]
      have h3 := congrArg (fun l => l[j / 6 * 6 + j % 6]?) hc
      simp only [List.getElem?_take] at h3
      rw [if_pos (by omega), Array.getElem?_toList, row_get _ _ _ hk hm] at h3
      rw [h3]
      have : (L.set i h)[j / 6]'(by simpa using hk) = L[j / 6] := by rw [List.getElem_set_ne (Ne.symm he)]
      rw [this]
  · have h1 : (L.set i h).flatMap HV.row = (L.set i h).flatMap HV.row := rfl
    have hl := flat_len HV.row 6 HV.row_len (L.set i h)
    rw [List.getElem?_take, if_neg hj, List.getElem?_eq_none]
    rw [hl, List.length_set]; omega
/-- block rb is the reference's Holds, whose list v, its own since base, holds L -/
structure RefRep (w : World) (base rb : Nat) (v : Value) (L : List HV) : Prop where
  rd : w.heap[rb]? = some (.cells #[v] 46 (0, 0))
  own : w.ownsRow base 32 6 v L.length (L.flatMap HV.row)
def fpR (rb : Nat) (v : Value) (b : Nat) : Prop := b = rb ∨ v.ownBlock = some b
theorem RefRep.ne {w : World} {base rb : Nat} {v : Value} {L : List HV} (R : RefRep w base rb v L) : v.ownBlock ≠ some rb := by
  intro e
  rcases R.own.2 with ⟨hv, _⟩ | ⟨b, cap, cur, rfl, _, hb, _⟩
  · rw [hv] at e; cases e
  · injection e with e
    subst e
    have h2 := R.rd
    rw [hb] at h2
    injection h2 with h2
    injection h2 with h3 h4
    exact absurd h4 (by decide)
theorem RefRep.keep {w w' : World} {base rb : Nat} {v : Value} {L : List HV} {S : Nat → Prop} (R : RefRep w base rb v L) (hu : Upd S w w') (hS : ∀ b, fpR rb v b → ¬ S b) : RefRep w' base rb v L :=
  ⟨hu.get R.rd (hS _ (Or.inl rfl)), own_keep R.own hu (fun b hb => hS b (Or.inr hb))⟩
theorem RefRep.keep0 {w w' : World} {base rb : Nat} {v : Value} {L : List HV} (R : RefRep w base rb v L) (hu : Upd noB w w') : RefRep w' base rb v L := R.keep hu (fun _ _ h => h)
theorem RefRep.len {w : World} {base rb : Nat} {v : Value} {L : List HV} (R : RefRep w base rb v L) : ∃ q cap, v = .slice q L.length cap := (RowAt.of_own R.own).len
/-- the hold at place i -/
theorem RefRep.at {w : World} {base rb : Nat} {v : Value} {L : List HV} (R : RefRep w base rb v L) (i : Nat) (hi : i < L.length) :
    ∃ b o c, v.ownBlock = some b ∧ (∀ kk, (Instr.indexAt 29 v (.int kk i)).run Try.prog w = .ok (.pointer (some ⟨b, o, none⟩)) w) ∧ w.heap[b]? = some (.cells c 32 (0, 0)) ∧ o + 6 ≤ c.size ∧
      (c[o]? = some (.int .i64 L[i].node) ∧ c[o + 1]? = some (.int .i64 L[i].opn) ∧ c[o + 2]? = some (.int .u8 L[i].level) ∧ c[o + 3]? = some (.bool L[i].brk) ∧ c[o + 4]? = some (.int .u8 L[i].to) ∧ c[o + 5]? = some (.int .i64 L[i].since)) ∧
      ∀ (h : HV) (c' : Array Value) (w' : World), c'.size = c.size → (∀ j, (j < o ∨ o + 6 ≤ j) → c'[j]? = c[j]?) → (∀ j, j < 6 → c'[o + j]? = h.cells[j]?) → w'.heap[b]? = some (.cells c' 32 (0, 0)) → Upd (fun x => x = b) w w' → RefRep w' base rb v (L.set i h) := by
  have hne := R.ne
  rcases R.own.2 with ⟨_, hn⟩ | ⟨b, cap, cur, rfl, hbase, hb, hnc, hcap, hcs, htake⟩
  · exact absurd hn (by omega)
  · have hle : L.length * 6 ≤ cap * 6 := Nat.mul_le_mul_right _ hnc
    have hg : ∀ j, j < 6 → cur[i * 6 + j]? = L[i].row[j]? := by
      intro j hj
      have h3 := congrArg (fun l => l[i * 6 + j]?) htake
      simp only [List.getElem?_take] at h3
      rw [if_pos (by omega), Array.getElem?_toList, row_get _ _ _ hi hj] at h3
      exact h3
    refine ⟨b, i * 6, cur, rfl, ?_, hb, by omega, ⟨hg 0 (by decide), hg 1 (by decide), hg 2 (by decide), hg 3 (by decide), hg 4 (by decide), hg 5 (by decide)⟩, ?_⟩
    · intro kk
      simp [Instr.indexAt, asIntOf, run_underlying Try.underlying29, Try.sizeOf32, hi, addr_add]
    · intro h c' w' hs hout hin hw hu
      refine ⟨hu.get R.rd (fun e => hne (by rw [e]; rfl)), ?_, ?_⟩
      · rw [flat_len HV.row 6 HV.row_len]
      · refine Or.inr ⟨b, cap, c', by rw [List.length_set], hbase, hw, by rw [List.length_set]; exact hnc, hcap, by rw [hs]; exact hcs, ?_⟩
        exact row_set cur c' L i hi h htake hout hin
/-! ### at -/
def AtI (rb : Nat) (L : List HV) (o : Int) (w : World) (m : Nat) (ρ : Env) (w' : World) : Prop :=
  ∃ k : Nat, m = L.length - k ∧ k ≤ L.length ∧ ρ 0 = ptrOf rb ∧ ρ 1 = .int .i64 o ∧ ρ 5 = .int .i64 k ∧ (∀ j (h : j < L.length), j < k → L[j].opn ≠ o) ∧ w' = w
def AtOut (L : List HV) (o : Int) (v : Value) : Prop :=
  (∃ i, ∃ h : i < L.length, L[i].opn = o ∧ v = .int .i64 i) ∨ ((∀ x, x ∈ L → x.opn ≠ o) ∧ v = .int .i64 (-1))
theorem refAt_any {w : World} {base rb : Nat} {v : Value} {L : List HV} (R : RefRep w base rb v L) (hlen : L.length ≤ 1048576) (o : Int) :
    CallP Try.prog 40 #[ptrOf rb, .int .i64 o] w (fun r w' => AtOut L o r ∧ w' = w) := by
  obtain ⟨q, cap, rfl⟩ := R.len
  have rd := R.rd
  refine call_den (args := [_, _]) Try.func40 rfl rfl (by simp [Try.ntmps40]) ?_
  simp [go_sem]
  refine den_loop (AtI rb L o w) L.length ?_ ?_
  · exact ⟨0, rfl, Nat.zero_le _, by simp [go_sem], by simp [go_sem], by simp [go_sem], fun j _ h => absurd h (by omega), rfl⟩
  · rintro m ρ w' ⟨k, rfl, hk, h0, h1, h5, hno, rfl⟩
    by_cases hlt : k < L.length
    · obtain ⟨b, oo, c, _, hi, hb, hsz, ⟨_, c1, _⟩, _⟩ := R.at k hlt
      by_cases he : L[k].opn = o
      · simp [go_sem, h0, h1, h5, rd, hlt, hi, hb, c1, he]
        exact Or.inl ⟨k, hlt, he, rfl⟩
      · simp [go_sem, h0, h1, h5, rd, hlt, hi, hb, c1, he]
        refine ⟨L.length - (k + 1), by omega, k + 1, rfl, by omega, by simp [go_sem, h0], by simp [go_sem, h1], ?_, ?_, rfl⟩
        · simp [go_sem]; exact wrap64_id (by omega) (by omega)
        · intro j hj hjk
          by_cases hjk' : j = k
          · subst hjk'; exact he
          · exact hno j hj (by omega)
    · have hk' : k = L.length := by omega
      subst hk'
      simp [go_sem, h0, h1, h5, rd]
      refine Or.inr ⟨?_, rfl⟩
      intro x hx
      obtain ⟨j, hj, rfl⟩ := List.getElem_of_mem hx
      exact hno j hj hj
def findL (L : List HV) (o : Int) : Option HV := L.find? fun x => x.opn == o
def levelL (L : List HV) (o : Int) : Int := match findL L o with | some x => x.level | none => 0
def Srt (L : List HV) : Prop := L.Pairwise fun x y => x.opn < y.opn
theorem Srt.uniq {L : List HV} (h : Srt L) {x y : HV} (hx : x ∈ L) (hy : y ∈ L) (e : x.opn = y.opn) : x = y := by
  induction L with
  | nil => cases hx
  | cons z r ih =>
    rw [Srt, List.pairwise_cons] at h
    rcases List.mem_cons.1 hx with rfl | hx'
    · rcases List.mem_cons.1 hy with rfl | hy'
      · rfl
      · have := h.1 y hy'; omega
    · rcases List.mem_cons.1 hy with rfl | hy'
      · have := h.1 x hx'; omega
      · exact ih h.2 hx' hy'
theorem findL_at {L : List HV} (h : Srt L) (i : Nat) (hi : i < L.length) {o : Int} (ho : L[i].opn = o) : findL L o = some L[i] := by
  unfold findL
  cases hf : L.find? fun x => x.opn == o with
  | none =>
    have := List.find?_eq_none.1 hf L[i] (List.getElem_mem hi)
    simp [ho] at this
  | some y =>
    have h1 := List.mem_of_find?_eq_some hf
    have h2 := List.find?_some hf
    simp at h2
    rw [h.uniq h1 (List.getElem_mem hi) (h2.trans ho.symm)]
theorem findL_none {L : List HV} {o : Int} (h : ∀ x, x ∈ L → x.opn ≠ o) : findL L o = none := List.find?_eq_none.2 fun x hx => by simp [h x hx]
theorem refLevel_any {w : World} {base rb : Nat} {v : Value} {L : List HV} (R : RefRep w base rb v L) (hs : Srt L) (hlen : L.length ≤ 1048576) (o : Int) :
    CallP Try.prog 26 #[ptrOf rb, .int .i64 o] w (fun r w' => r = .int .u8 (levelL L o) ∧ w' = w) := by
  have rd := R.rd
  unfold levelL
  refine call_den (args := [_, _]) Try.func26 rfl rfl (by simp [Try.ntmps26]) ?_
  simp [go_sem]
  refine CallP.mono (refAt_any R hlen o) ?_
  rintro r w' ⟨⟨i, hi, ho, rfl⟩ | ⟨hno, rfl⟩, rfl⟩
  · obtain ⟨b, oo, c, _, hx, hb, hsz, ⟨_, _, c2, _⟩, _⟩ := R.at i hi
    have : ¬ ((i : Int) < 0) := by omega
    simp [go_sem, rd, this, hx, hb, c2, findL_at hs i hi ho]
  · simp [go_sem, findL_none hno]
/-! ### greatest -/
def greatL (L : List HV) (node : Int) : Int := L.foldl (fun a x => if x.node = node then max a x.level else a) 0
theorem greatL_snoc (l : List HV) (x : HV) (node : Int) : greatL (l ++ [x]) node = if x.node = node then max (greatL l node) x.level else greatL l node := by
  unfold greatL; rw [List.foldl_append]; rfl
def GrI (rb : Nat) (L : List HV) (node : Int) (w : World) (m : Nat) (ρ : Env) (w' : World) : Prop :=
  ∃ k : Nat, m = L.length - k ∧ k ≤ L.length ∧ ρ 0 = ptrOf rb ∧ ρ 1 = .int .i64 node ∧ ρ 6 = .int .i64 k ∧ ρ 5 = .int .u8 (greatL (L.take k) node) ∧ w' = w
theorem refGreatest_any {w : World} {base rb : Nat} {v : Value} {L : List HV} (R : RefRep w base rb v L) (hlen : L.length ≤ 1048576) (node : Int) :
    CallP Try.prog 43 #[ptrOf rb, .int .i64 node] w (fun r w' => r = .int .u8 (greatL L node) ∧ w' = w) := by
  obtain ⟨q, cap, rfl⟩ := R.len
  have rd := R.rd
  refine call_den (args := [_, _]) Try.func43 rfl rfl (by simp [Try.ntmps43]) ?_
  simp [go_sem]
  refine den_loop (GrI rb L node w) L.length ?_ ?_
  · exact ⟨0, rfl, Nat.zero_le _, by simp [go_sem], by simp [go_sem], by simp [go_sem], by simp [go_sem, greatL], rfl⟩
  · rintro m ρ w' ⟨k, rfl, hk, h0, h1, h6, h5, rfl⟩
    by_cases hlt : k < L.length
    · obtain ⟨b, oo, c, _, hi, hb, hsz, ⟨c0, _, c2, _⟩, _⟩ := R.at k hlt
      have ht : L.take (k + 1) = L.take k ++ [L[k]] := List.take_succ_eq_append_getElem hlt
      by_cases he : L[k].node = node
      · have hg : greatL (L.take (k + 1)) node = max (greatL (L.take k) node) L[k].level := by rw [ht, greatL_snoc, if_pos he]
        simp [go_sem, h0, h1, h5, h6, rd, hlt, hi, hb, c0, c2, he]
        refine ⟨L.length - (k + 1), by omega, k + 1, rfl, by omega, by simp [go_sem, h0], by simp [go_sem, h1], ?_, ?_, rfl⟩
        · simp [go_sem]; exact wrap64_id (by omega) (by omega)
        · simp [go_sem, hg]
      · have hg : greatL (L.take (k + 1)) node = greatL (L.take k) node := by rw [ht, greatL_snoc, if_neg he]
        simp [go_sem, h0, h1, h5, h6, rd, hlt, hi, hb, c0, he]
        refine ⟨L.length - (k + 1), by omega, k + 1, rfl, by omega, by simp [go_sem, h0], by simp [go_sem, h1], ?_, ?_, rfl⟩
        · simp [go_sem]; exact wrap64_id (by omega) (by omega)
        · simp [go_sem, hg, h5]
    · have hk' : k = L.length := by omega
      subst hk'
      simp [go_sem, h0, h1, h5, h6, rd]
end Go.Proofs.Ytnelmicecaggoaa
