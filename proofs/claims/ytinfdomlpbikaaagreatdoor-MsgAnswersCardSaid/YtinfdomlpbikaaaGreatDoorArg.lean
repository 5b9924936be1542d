/-
  Arguments: a slice that came in, as rows of cells; read again behind the call.
-/
import Derived.Test.YtinfdomlpbikaaaGreatDoorRow
import Derived.Test.YtinfdomlpbikaaaGreatDoorSli
import Derived.Deep.Slices
import Derived.Carry
import Derived.OpenShut
import Derived.WalkKit
namespace Go.Eng
open Go Go.ChangeShapes Go.WideShapes Go.RowKit
section
variable {H : Type} {enc : TypeId × Value → H} {P : Program} {w : World} {held : Bool}
theorem Upd.below {W W' : World} (h : Upd noB W W') : Below W.heap.size W W' := ⟨h.os, h.tape, h.output, h.size, fun k hk => h.block k hk (fun x => x)⟩
theorem range_rows (rows : Nat → List Value) (size n : Nat) (hr : ∀ i, i < n → (rows i).length = size) (i j : Nat) (hi : i < n) (hj : j < size) : ((List.range n).flatMap rows)[i * size + j]? = (rows i)[j]? := by
  have h1 : (List.range n).flatMap rows = (List.range n).flatMap (fun i => if i < n then rows i else List.replicate size undef) := Deep.flatMap_congr_range fun i hi => by rw [if_pos hi]
  have h2 := flat_at (fun i => if i < n then rows i else List.replicate size undef) size (fun i => by split; exact hr i ‹_›; simp) (List.range n) i (by simpa using hi)
  rw [h1]
  have h3 := congrArg (fun l => l[j]?) h2
  simp only [List.getElem?_take, if_pos hj, List.getElem?_drop, List.getElem_range, if_pos hi] at h3
  exact h3
theorem range_rows_len (rows : Nat → List Value) (size : Nat) : ∀ n, (∀ i, i < n → (rows i).length = size) → ((List.range n).flatMap rows).length = n * size := by
  intro n
  induction n with
  | zero => intro _; simp
  | succ n ih =>
    intro hr
    rw [List.range_succ, List.flatMap_append, List.length_append, ih (fun i hi => hr i (by omega))]
    simp [hr n (by omega), Nat.add_mul]
theorem open_rows {t e : TypeId} {size fuel : Nat} {cs : List Value} {x : DataW H × List MemPlace} (ht : P.underlying t = some (.slice e)) (hc : P.cellsOf e = size) (hpos : 0 < size)
    (h : DataW.trod enc P w 0 (fun _ => true) held fuel t cs = some x) :
    ∃ (v : Value) (n : Nat) (rows : Nat → List Value), cs = [v] ∧ RowAt w size v n ((List.range n).flatMap rows) ∧ n ≤ 9223372036854775807 ∧
      ∀ i, i < n → (rows i).length = size ∧ ∃ m y, DataW.trod enc P w 0 (fun _ => true) held m e (rows i) = some y := by
  rcases Deep.open_slice ht h with ⟨rfl, _⟩ | ⟨a, len, cap, m, n, D, Pl, rfl, _, hl, hm, hmm, _, hx⟩
  · exact ⟨_, 0, fun _ => [], rfl, ⟨by simp, Or.inl ⟨none, 0, rfl, rfl⟩⟩, by omega, fun i hi => absurd hi (by omega)⟩
  · simp only [if_true] at hmm
    subst hmm
    rw [hc] at hx
    obtain ⟨rows, hrows⟩ := Deep.choose_lt (α := List Value) (p := fun i cs' => w.cells? 0 (a.add (i * size)) size = some cs' ∧ DataW.trod enc P w 0 (fun _ => true) held n e cs' = some (D i, Pl i)) (fun i hi => hx i hi)
    refine ⟨_, len, rows, rfl, ?_, by have h2 : maxLen = 9223372036854775807 := rfl; omega, fun i hi => ⟨(World.cells?_some (hrows i (by omega)).1).2.1, n, _, (hrows i (by omega)).2⟩⟩
    have hlen : ∀ i, i < len → (rows i).length = size := fun i hi => (World.cells?_some (hrows i (by omega)).1).2.1
    refine ⟨range_rows_len rows size len hlen, ?_⟩
    by_cases h0 : len = 0
    · subst h0; exact Or.inl ⟨_, m, rfl, rfl⟩
    · obtain ⟨b, off, spot⟩ := a
      have hcell := fun i (hi : i < len) j (hj : j < size) => (World.cells?_some (hrows i (by omega)).1).2.2 j hj
      have h00 := hcell 0 (by omega) 0 hpos
      have hne : (rows 0)[0]? ≠ none := by
        have := hlen 0 (by omega)
        rw [List.getElem?_eq_getElem (by omega)]; simp
      rw [← h00] at hne
      simp only [Nat.zero_mul, Addr.add, if_true, World.cell?] at hne
      split at hne
      · rename_i c te f hb
        cases spot with
        | some s => simp at hne
        | none =>
          have hall : ∀ i, i < len → ∀ j, j < size → c[off + i * size + j]? = (rows i)[j]? := by
            intro i hi j hj
            have := hcell i hi j hj
            rw [addr_add, addr_add, cell?_at, hb, cellIn_some] at this
            exact this
          have hsz : off + len * size ≤ c.size := by
            have h1 := hall (len - 1) (by omega) (size - 1) (by omega)
            rw [List.getElem?_eq_getElem (by rw [hlen _ (by omega)]; omega)] at h1
            have h2 := (Array.getElem?_eq_some_iff.1 h1).1
            have h3 : (len - 1) * size + size = len * size := by
              have : len = (len - 1) + 1 := by omega
              conv => rhs; rw [this, Nat.add_mul, Nat.one_mul]
            omega
          refine Or.inr ⟨b, off, m, c, te, f, rfl, hb, hsz, ?_⟩
          apply List.ext_getElem?
          intro k
          rw [List.getElem?_take]
          by_cases hk : k < len * size
          · rw [if_pos hk, List.getElem?_drop, Array.getElem?_toList]
            have hkk : k = k / size * size + k % size := by rw [Nat.mul_comm]; exact (Nat.div_add_mod k size).symm
            have hi : k / size < len := Nat.div_lt_of_lt_mul (by rw [Nat.mul_comm]; exact hk)
            have hj : k % size < size := Nat.mod_lt _ hpos
            rw [hkk, range_rows rows size len hlen _ _ hi hj, ← hall _ hi _ hj, Nat.add_assoc]
          · rw [if_neg hk, List.getElem?_eq_none]
            rw [range_rows_len rows size len hlen]; omega
      · exact absurd rfl hne
/-- a struct's field of one cell -/
theorem field_int {t : TypeId} {fs : Array Field} {fuel : Nat} {cs : List Value} {x : DataW H × List MemPlace} {base : Nat} {spare : Nat → Bool} (ht : P.underlying t = some (.struct fs)) (h : DataW.trod enc P w base spare held fuel t cs = some x) (i : Nat) {f : Field} (hf : fs[i]? = some f) {k : IntKind}
    (hk : P.underlying f.type = some (.int k)) (hc : P.cellsOf f.type = 1) : ∃ n, cs[f.offset]? = some (.int k n) ∧ (Lit.int k n).wf = true := by
  obtain ⟨xs, n, _, _, _, hlen, hx⟩ := DataW.trod_struct ht h
  have h1 := hx i f hf
  have hi := (Array.getElem?_eq_some_iff.1 hf).1
  rw [List.getElem?_eq_getElem (by omega), hc] at h1
  obtain ⟨z, h2, _, h3⟩ := DataW.trod_int hk h1
  refine ⟨z, ?_, h3⟩
  have := congrArg (fun l => l[0]?) h2
  simpa [List.getElem?_take, List.getElem?_drop] using this
theorem field_bool {t : TypeId} {fs : Array Field} {fuel : Nat} {cs : List Value} {x : DataW H × List MemPlace} {base : Nat} {spare : Nat → Bool} (ht : P.underlying t = some (.struct fs)) (h : DataW.trod enc P w base spare held fuel t cs = some x) (i : Nat) {f : Field} (hf : fs[i]? = some f)
    (hk : P.underlying f.type = some .bool) (hc : P.cellsOf f.type = 1) : ∃ b, cs[f.offset]? = some (.bool b) := by
  obtain ⟨xs, n, _, _, _, hlen, hx⟩ := DataW.trod_struct ht h
  have h1 := hx i f hf
  have hi := (Array.getElem?_eq_some_iff.1 hf).1
  rw [List.getElem?_eq_getElem (by omega), hc] at h1
  obtain ⟨z, h2, _⟩ := DataW.trod_bool hk h1
  refine ⟨z, ?_⟩
  have := congrArg (fun l => l[0]?) h2
  simpa [List.getElem?_take, List.getElem?_drop] using this
/-- what came in reads as it did, where nothing old has turned -/
theorem read_again (hlaid : laidOutB P = true) {W W' : World} {sp : Nat → Bool} (hu : Upd noB W W') : ∀ {ts : List TypeId} {vs : List Value} {ds : List (DataW H)} {ps : List MemPlace}, (∀ t ∈ ts, P.readableRec t = true ∧ t < P.types.size) →
    DataW.TrodAll enc P W 0 (fun _ => true) true ts vs ds ps → (∀ x ∈ ps, x.block < W.heap.size) → (∀ x ∈ ps, sp x.block = true) → DataW.TrodAll enc P W' 0 sp true ts vs ds ps
  | [], vs, ds, ps, _, h, _, _ => by
    obtain ⟨rfl, rfl, rfl⟩ := trodAll_nil h
    exact trodAll_mk0
  | t :: ts, vs, ds, ps, ht, h, hlt, hsp => by
    obtain ⟨v, vs', d, ds', a, b, rfl, rfl, rfl, h1, h2⟩ := trodAll_cons h
    refine trodAll_cons_mk ?_ (read_again hlaid hu (fun t' ht' => ht t' (by simp [ht'])) h2 (fun x hx => hlt x (by simp [hx])) (fun x hx => hsp x (by simp [hx])))
    exact WideElems.Trod_stays hlaid (ht t (by simp)).1 (ht t (by simp)).2 h1 (fun x hx => hu.below.same (hlt x (by simp [hx]))) (fun x hx => hsp x (by simp [hx]))
/-- a law's end: it returned true, and nothing old has turned -/
theorem post_law {f : Func} {s : ChangeSpec} {apart fresh handsOn again : Bool} {W W' : World} {args : Array Value} {ds gs : List (DataW H)} {before : List MemPlace} {tb : TypeId} (hlaid : laidOutB P = true)
    (hts : (f.params.toList.all fun t => P.readableRec t && decide (t < P.types.size)) = true) (hr : f.resultTypes = #[tb]) (hb : P.underlying tb = some .bool) (hv : s.vars = [])
    (hW : DataW.Whole enc P f.params.toList s.vars apart W args.toList ds gs before) (hu : Upd noB W W')
    (h1 : (s.fn H (ds ++ gs)).results = [.lit (.bool true)]) (h2 : (s.fn H (ds ++ gs)).args = ds) (h3 : (s.fn H (ds ++ gs)).vars = []) : s.post enc P f apart fresh handsOn again W args (.bool true) W' := by
  have hlt := hW.lt
  have hW' := hW
  obtain ⟨p, q, hA, hV, hpq, _⟩ := hW
  rw [hv] at hV
  obtain ⟨rfl, rfl⟩ := trodVars_none hV
  refine post_of_upd (pa := p) (pv := []) hW' ?_ ?_ ?_ (by simpa using hpq) hu (ok_one hr rfl (okWide_bool_mk hb _))
  · intro b sp hd
    rw [h1, hr]
    exact trodAll_cons_mk (shut_bool hb _) trodAll_mk0
  · intro sp hsp
    rw [h2]
    have hpb : ∀ x ∈ p, x ∈ before := fun x hx => by rw [hpq]; simp [hx]
    exact read_again hlaid hu (fun t ht => by have := List.all_eq_true.1 hts t ht; simpa using this) hA (fun x hx => hlt x (hpb x hx)) (fun x hx => hsp x (hpb x hx))
  · intro sp hsp
    rw [hv, h3]
    rfl
end
end Go.Eng
