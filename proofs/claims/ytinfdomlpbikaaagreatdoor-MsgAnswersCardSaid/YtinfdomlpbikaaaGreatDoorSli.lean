/-
  Slices of the call's own, by one word on their types.
-/
import Derived.Test.YtinfdomlpbikaaaGreatDoorMem
namespace Go.Eng
set_option linter.unusedSimpArgs false
open Go
theorem wrap64_id {n : Int} (h1 : -9223372036854775808 ≤ n) (h2 : n < 9223372036854775808) : IntKind.i64.wrap n = n := by
  simp only [IntKind.wrap, IntKind.bits, IntKind.signed]
  simp; omega
theorem wrap8_id {n : Int} (h1 : 0 ≤ n) (h2 : n < 256) : IntKind.u8.wrap n = n := by
  simp only [IntKind.wrap, IntKind.bits, IntKind.signed]
  simp; omega
/-- slice type t, of elements of type e: so many cells, so many bytes each -/
structure SlT (P : Program) (t e : TypeId) (size bytes : Nat) : Prop where
  ht : P.underlying t = some (.slice e)
  info : ∃ i z, P.info? e = some i ∧ i.zero = some z ∧ i.size = size ∧ i.bytes = bytes ∧ z.cells.size = size
  pos : 0 < size
theorem SlT.mk' {P : Program} {t e : TypeId} {size bytes : Nat} {i : TypeInfo} {z : Value} (ht : P.underlying t = some (.slice e)) (hi' : P.info? e = some i) (hz : i.zero = some z) (hs : i.size = size) (hb : i.bytes = bytes) (hzs : z.cells.size = size) (h0 : 0 < size) : SlT P t e size bytes :=
  ⟨ht, ⟨i, z, hi', hz, hs, hb, hzs⟩, h0⟩
section
variable {P : Program} {t e : TypeId} {size bytes : Nat} {w : World}
theorem cell?_add (w : World) (b o j : Nat) : w.cell? ((⟨b, o, none⟩ : Addr).add j) = cellIn (w.heap[b]?) (o + j) := by
  have : ((⟨b, o, none⟩ : Addr).add j) = ⟨b, o + j, none⟩ := by
    unfold Addr.add; split <;> simp_all
  rw [this, cell?_at]
theorem addr_add (b o j : Nat) : ((⟨b, o, none⟩ : Addr).add j) = ⟨b, o + j, none⟩ := by
  unfold Addr.add; split <;> simp_all
/-- append of cells that lie in a row -/
theorem SlT.append (T : SlT P t e size bytes) {base : Nat} {v : Value} {n : Nat} {xs : List Value} (own : w.ownsRow base e size v n xs) (ty : TypeId)
    {b o m c : Nat} {cs : Array Value} {te : TypeId} {f : Nat × Nat} (hsrc : w.heap[b]? = some (.cells cs te f)) (news : List Value) (hnews : news = (cs.toList.drop o).take (m * size)) (hm : o + m * size ≤ cs.size) (h1 : ∀ u ∈ news, u.oneCell' = true)
    (hroom : (n + m) * bytes ≤ 140737488355328) (hmax : n + m ≤ maxLen) (hbase : base ≤ w.heap.size) :
    ∃ v' w', (Builtin.append_ #[t, t] ty #[v, .slice (some ⟨b, o, none⟩) m c]).run P w = .ok v' w' ∧ w'.ownsRow base e size v' (n + m) (xs ++ news) ∧ w.grownBy w' v.ownBlock ∧
      (v' = .slice none 0 0 ↔ v = .slice none 0 0 ∧ m = 0) := by
  obtain ⟨i, z, hi, hz, hs, hb, hzs⟩ := T.info
  refine run_append_own w base t ty e i z size bytes T.ht hi hz hs hb hzs T.pos v n xs own ⟨b, o, none⟩ m c news ?_ ?_ h1 hmax hroom hbase
  · subst hnews; simp; omega
  · intro j u hu
    rw [cell?_add, hsrc, cellIn_some]
    subst hnews
    rw [List.getElem?_take] at hu
    split at hu
    · rw [List.getElem?_drop] at hu
      simpa using hu
    · cases hu
theorem SlT.append_all (T : SlT P t e size bytes) {base : Nat} {v : Value} {n : Nat} {xs : List Value} (own : w.ownsRow base e size v n xs) (ty : TypeId)
    {b m c : Nat} {cs : Array Value} {te : TypeId} {f : Nat × Nat} (hsrc : w.heap[b]? = some (.cells cs te f)) (hm : cs.size = m * size) (h1 : ∀ u ∈ cs.toList, u.oneCell' = true)
    (hroom : (n + m) * bytes ≤ 140737488355328) (hmax : n + m ≤ maxLen) (hbase : base ≤ w.heap.size) :
    ∃ v' w', (Builtin.append_ #[t, t] ty #[v, .slice (some ⟨b, 0, none⟩) m c]).run P w = .ok v' w' ∧ w'.ownsRow base e size v' (n + m) (xs ++ cs.toList) ∧ w.grownBy w' v.ownBlock ∧
      (v' = .slice none 0 0 ↔ v = .slice none 0 0 ∧ m = 0) :=
  T.append own ty hsrc cs.toList (by rw [List.drop_zero, List.take_of_length_le (by simp [hm])]) (by omega) h1 hroom hmax hbase
theorem fold_size : ∀ (l : List (Value × Nat)) (a : Array Value) (o : Nat), (l.foldl (fun cs (x : Value × Nat) => cs.setIfInBounds (o + x.2) x.1) a).size = a.size := by
  intro l
  induction l with
  | nil => intro a o; rfl
  | cons x r ih => intro a o; simp [ih]
theorem fold_get : ∀ (l : List Value) (k : Nat) (a : Array Value) (j : Nat), k + l.length ≤ a.size →
    ((l.zipIdx k).foldl (fun cs (x : Value × Nat) => cs.setIfInBounds (0 + x.2) x.1) a)[j]? = if k ≤ j ∧ j < k + l.length then l[j - k]? else a[j]? := by
  intro l
  induction l with
  | nil => intro k a j _; rw [if_neg (by simp)]; rfl
  | cons x r ih =>
    intro k a j hk
    simp only [List.length_cons] at hk
    simp only [List.zipIdx_cons, List.foldl_cons]
    rw [ih (k + 1) _ j (by simp; omega)]
    by_cases hj : k = j
    · subst hj
      rw [if_neg (by omega), if_pos (by simp)]
      have : k < a.size := by omega
      simp [this]
    · by_cases hj2 : k + 1 ≤ j ∧ j < k + 1 + r.length
      · rw [if_pos hj2, if_pos (by simp; omega)]
        have : j - k = (j - (k + 1)) + 1 := by omega
        rw [this, List.getElem?_cons_succ]
      · rw [if_neg hj2, if_neg (by simp; omega)]
        rw [Array.getElem?_setIfInBounds, if_neg (by omega)]
theorem fold_set (xs a : Array Value) (o : Nat) (ho : o = 0) (h : xs.size = a.size) : (xs.zipIdx.foldl (fun cs (x : Value × Nat) => cs.setIfInBounds (o + x.2) x.1) a) = xs := by
  subst ho
  rw [← Array.foldl_toList, Array.toList_zipIdx]
  apply Array.ext_getElem?
  intro j
  rw [fold_get xs.toList 0 a j (by simp [h])]
  by_cases hj : j < xs.size
  · rw [if_pos (by simp [hj])]; simp
  · rw [if_neg (by simp; omega)]
    rw [Array.getElem?_eq_none (by omega), Array.getElem?_eq_none (by omega)]
/-- a slice of one element, written out -/
theorem SlT.build1 (T : SlT P t e size bytes) (v : Value) (hv : v.cells.size = size) (hsz : size ≤ 16777216) :
    (Instr.buildSlice t 1 #[(0, v)]).run P w = .ok (.slice (some ⟨w.heap.size, 0, none⟩) 1 1) (w.alloc (.cells v.cells e)) := by
  obtain ⟨i, z, hi, hz, hs, hb, hzs⟩ := T.info
  have hpos := T.pos
  have hp : ¬ size = 0 := by omega
  have h24 : ¬ (16777216 < size) := by omega
  have hfill : Instr.fill (fun i => some (i * size, size)) ((Array.range size).map (z.cells[· % z.cells.size]!)) [(0, v)] = some v.cells := by
    have h1 : (v.cells.size ≠ size || decide (0 * size + v.cells.size > ((Array.range size).map (z.cells[· % z.cells.size]!)).size)) = false := by simp [hv]
    simp only [Instr.fill, h1, Bool.false_eq_true, if_false]
    rw [fold_set v.cells _ (0 * size) (by omega) (by simp [hv])]
  have hinfo : ∀ w, (typeInfo e).run P w = .ok i w := fun w => by simp [typeInfo, hi]
  have hzero : ∀ w, (zeroValue e).run P w = .ok z w := fun w => by simp [zeroValue, hinfo, hz]
  have hsize : ∀ w, (Go.sizeOf e).run P w = .ok size w := fun w => by simp [Go.sizeOf, hinfo, hs]
  simp [Instr.buildSlice, run_underlying T.ht, hsize, hp, h24, hzero, hfill, newRow]
theorem SlT.build1K (T : SlT P t e size bytes) (v : Value) (hv : v.cells.size = size) (hsz : size ≤ 16777216) (k : Value → World → Prop) :
    K_buildSlice P t 1 #[(0, v)] w k = k (.slice (some ⟨w.heap.size, 0, none⟩) 1 1) (w.alloc (.cells v.cells e)) := K_buildSlice_ok _ _ _ _ (T.build1 v hv hsz)
theorem own_base {base base' : Nat} {v : Value} {n : Nat} {xs : List Value} (h : w.ownsRow base e size v n xs) (hb : base' ≤ base) : w.ownsRow base' e size v n xs := by
  refine ⟨h.1, ?_⟩
  rcases h.2 with h | ⟨g, cap, cur, hv, hg, r⟩
  · exact Or.inl h
  · exact Or.inr ⟨g, cap, cur, hv, Nat.le_trans hb hg, r⟩
theorem own_keep {base : Nat} {v : Value} {n : Nat} {xs : List Value} {S : Nat → Prop} {w' : World} (h : w.ownsRow base e size v n xs) (hu : Upd S w w') (hn : ∀ b, v.ownBlock = some b → ¬ S b) : w'.ownsRow base e size v n xs := by
  refine ⟨h.1, ?_⟩
  rcases h.2 with h | ⟨g, cap, cur, rfl, hg, hb, r⟩
  · exact Or.inl h
  · exact Or.inr ⟨g, cap, cur, rfl, hg, hu.get hb (hn g rfl), r⟩
theorem own_keep0 {base : Nat} {v : Value} {n : Nat} {xs : List Value} {w' : World} (h : w.ownsRow base e size v n xs) (hu : Upd noB w w') : w'.ownsRow base e size v n xs := own_keep h hu (fun _ _ h => h)
/-- append to a slice that is the call's own since base: nothing older has turned -/
theorem upd_append {base : Nat} {v : Value} {n : Nat} {xs : List Value} {w0 w1 w' : World} {S : Nat → Prop} (h : w.ownsRow base e size v n xs) (hu : Upd S w0 w1) (hb : w0.heap.size ≤ base) (hg : w1.grownBy w' v.ownBlock) : Upd S w0 w' :=
  hu.grown hg (fun b hb' hlt => by have := (h.lt b hb').1; omega)
/-! ### a slice that is read -/
/-- v is a slice of n elements, of 'size' cells each, whose cells read as xs -/
def RowAt (w : World) (size : Nat) (v : Value) (n : Nat) (xs : List Value) : Prop :=
  xs.length = n * size ∧ ((∃ p cap, v = .slice p 0 cap ∧ n = 0) ∨
    ∃ b off cap c e f, v = .slice (some ⟨b, off, none⟩) n cap ∧ w.heap[b]? = some (.cells c e f) ∧ off + n * size ≤ c.size ∧ (c.toList.drop off).take (n * size) = xs)
theorem RowAt.of_own {base : Nat} {v : Value} {n : Nat} {xs : List Value} (own : w.ownsRow base e size v n xs) : RowAt w size v n xs := by
  refine ⟨own.1, ?_⟩
  rcases own.2 with ⟨hv, hn⟩ | ⟨b, cap, cur, hv, hbase, hb, hnc, hcap, hcs, htake⟩
  · exact Or.inl ⟨none, 0, by rw [hv], hn⟩
  · have : n * size ≤ cap * size := Nat.mul_le_mul_right _ hnc
    exact Or.inr ⟨b, 0, cap, cur, e, (0, 0), hv, hb, by omega, by simpa using htake⟩
theorem RowAt.keep {S : Nat → Prop} {w' : World} {v : Value} {n : Nat} {xs : List Value} (h : RowAt w size v n xs) (hu : Upd S w w') (hn : ∀ b, v.ownBlock = some b → ¬ S b) : RowAt w' size v n xs := by
  refine ⟨h.1, ?_⟩
  rcases h.2 with hv | ⟨b, off, cap, c, e, f, rfl, hb, r⟩
  · exact Or.inl hv
  · exact Or.inr ⟨b, off, cap, c, e, f, rfl, hu.get hb (hn b rfl), r⟩
theorem RowAt.len {v : Value} {n : Nat} {xs : List Value} (h : RowAt w size v n xs) : ∃ p cap, v = .slice p n cap := by
  rcases h.2 with ⟨p, cap, rfl, rfl⟩ | ⟨b, off, cap, c, e, f, rfl, r⟩
  · exact ⟨_, _, rfl⟩
  · exact ⟨_, _, rfl⟩
/-- element k: its place, and its cells -/
theorem RowAt.index {v : Value} {n : Nat} {xs : List Value} (h : RowAt w size v n xs) (ht : P.underlying t = some (.slice e)) (hs : ∀ w, (Go.sizeOf e).run P w = .ok size w) (k : Nat) (hk : k < n) :
    ∃ b off c te f, v.ownBlock = some b ∧ (∀ kk, (Instr.indexAt t v (.int kk k)).run P w = .ok (.pointer (some ⟨b, off + k * size, none⟩)) w) ∧ w.heap[b]? = some (.cells c te f) ∧ off + n * size ≤ c.size ∧
      ∀ j, j < size → c[off + k * size + j]? = xs[k * size + j]? := by
  rcases h.2 with ⟨p, cap, rfl, rfl⟩ | ⟨b, off, cap, c, te, f, rfl, hb, hle, htake⟩
  · omega
  · refine ⟨b, off, c, te, f, rfl, ?_, hb, hle, ?_⟩
    · intro kk
      simp [Instr.indexAt, asIntOf, run_underlying ht, hs, hk, addr_add]
    · intro j hj
      have hlt : k * size + j < n * size := by
        have : (k + 1) * size ≤ n * size := Nat.mul_le_mul_right _ hk
        rw [Nat.add_mul] at this; omega
      rw [← htake, List.getElem?_take, if_pos hlt, List.getElem?_drop, Array.getElem?_toList]
      congr 1; omega
/-- element k of one cell -/
theorem RowAt.at1 {v : Value} {n : Nat} {xs : List Value} (h : RowAt w 1 v n xs) (ht : P.underlying t = some (.slice e)) (hs : ∀ w, (Go.sizeOf e).run P w = .ok 1 w) (ha : ∀ w, (isAgg e).run P w = .ok false w) (k : Nat) (hk : k < n) (x : Value) (hx : xs[k]? = some x) :
    ∃ q, (∀ kk, (Instr.indexAt t v (.int kk k)).run P w = .ok (.pointer (some q)) w) ∧ (Instr.loadAt e (.pointer (some q))).run P w = .ok x w ∧ ∀ K, K_load P e (.pointer (some q)) w K = K x w := by
  obtain ⟨b, off, c, te, f, _, hi, hb, hle, hc⟩ := h.index ht hs k hk
  have key : (Instr.loadAt e (.pointer (some ⟨b, off + k * 1, none⟩))).run P w = .ok x w := ?_
  · exact ⟨_, hi, key, fun K => K_load_ok K _ _ key⟩
  have h0 := hc 0 (by omega)
  simp only [Nat.mul_one, Nat.add_zero] at h0
  rw [hx] at h0
  simp only [Instr.loadAt, Instr.sureAddr, Sem.run_bind, Sem.run_pure, Result.andThen_ok, loadVar, ha, Bool.false_eq_true, if_false, run_load, cell?_at, hb, cellIn_some, Nat.mul_one, h0]
theorem run_loadCells (b o : Nat) {c : Array Value} {te : TypeId} {f : Nat × Nat} (hb : w.heap[b]? = some (.cells c te f)) :
    ∀ (n i : Nat) (acc : Array Value), o + i + n ≤ c.size → (loadCellsFrom ⟨b, o, none⟩ i n acc).run P w = .ok (acc ++ ((c.toList.drop (o + i)).take n).toArray) w := by
  intro n
  induction n with
  | zero => intro i acc _; simp [loadCellsFrom]
  | succ n ih =>
    intro i acc h
    have hlt : o + i < c.size := by omega
    simp only [loadCellsFrom, Sem.run_bind, run_load, cell?_add, hb, cellIn_some, Array.getElem?_eq_getElem hlt, Result.andThen_ok]
    rw [ih (i + 1) _ (by omega)]
    congr 1
    have : c.toList.drop (o + i) = c[o + i] :: c.toList.drop (o + (i + 1)) := by
      rw [List.drop_eq_getElem_cons (by simpa using hlt)]; simp [Nat.add_assoc]
    rw [this]
    simp
/-- a struct (or an array) that lies in a row -/
theorem run_loadAgg {t : TypeId} {n : Nat} (ha : (isAgg t).run P w = .ok true w) (hs : (Go.sizeOf t).run P w = .ok n w) (b o : Nat) {c : Array Value} {te : TypeId} {f : Nat × Nat} (hb : w.heap[b]? = some (.cells c te f)) (h : o + n ≤ c.size) :
    (Instr.loadAt t (.pointer (some ⟨b, o, none⟩))).run P w = .ok (.agg ((c.toList.drop o).take n).toArray) w := by
  simp only [Instr.loadAt, Instr.sureAddr, Sem.run_bind, Sem.run_pure, Result.andThen_ok, loadVar, ha, if_true, hs, loadCells]
  rw [run_loadCells b o hb n 0 #[] (by omega)]
  simp
theorem K_load_agg {t : TypeId} {n : Nat} (b o : Nat) {cs : List Value} (K : Value → World → Prop) (ha : (isAgg t).run P w = .ok true w) (hs : (Go.sizeOf t).run P w = .ok n w) (hb : cutIn (w.heap[b]?) o n = some cs) :
    K_load P t (.pointer (some ⟨b, o, none⟩)) w K = K (.agg cs.toArray) w := by
  obtain ⟨c, te, f, hb2, hle, rfl⟩ := cutIn_spec hb
  exact K_load_ok K _ _ (run_loadAgg ha hs b o hb2 hle)
theorem RowAt.atN {v : Value} {n : Nat} {xs : List Value} (h : RowAt w size v n xs) (ht : P.underlying t = some (.slice e)) (hs : ∀ w, (Go.sizeOf e).run P w = .ok size w) (ha : ∀ w, (isAgg e).run P w = .ok true w) (k : Nat) (hk : k < n) :
    ∃ q, (∀ kk, (Instr.indexAt t v (.int kk k)).run P w = .ok (.pointer (some q)) w) ∧ (Instr.loadAt e (.pointer (some q))).run P w = .ok (.agg ((xs.drop (k * size)).take size).toArray) w ∧ ∀ K, K_load P e (.pointer (some q)) w K = K (.agg ((xs.drop (k * size)).take size).toArray) w := by
  obtain ⟨b, off, c, te, f, _, hi, hb, hle, hc⟩ := h.index ht hs k hk
  have hlt : k * size + size ≤ n * size := by
    have : (k + 1) * size ≤ n * size := Nat.mul_le_mul_right _ hk
    rw [Nat.add_mul] at this; omega
  have key : (Instr.loadAt e (.pointer (some ⟨b, off + k * size, none⟩))).run P w = .ok (.agg ((xs.drop (k * size)).take size).toArray) w := ?_
  · exact ⟨_, hi, key, fun K => K_load_ok K _ _ key⟩
  rw [run_loadAgg (ha w) (hs w) b _ hb (by omega)]
  congr 3
  apply List.ext_getElem?
  intro j
  rw [List.getElem?_take, List.getElem?_take]
  by_cases hj : j < size
  · rw [if_pos hj, if_pos hj, List.getElem?_drop, List.getElem?_drop, Array.getElem?_toList]
    exact hc j hj
  · rw [if_neg hj, if_neg hj]
/-! ### slicing -/
theorem run_slice_le (ht : P.underlying t = some (.slice e)) (hs : ∀ w, (Go.sizeOf e).run P w = .ok size w) (b o n cap lo hi : Nat) (low high : Option Value)
    (hl : (low = none ∧ lo = 0) ∨ ∃ k, low = some (.int k lo)) (hh : (high = none ∧ hi = n) ∨ ∃ k, high = some (.int k hi)) (h1 : lo ≤ hi) (h2 : hi ≤ cap) :
    (Instr.sliceAt t (.slice (some ⟨b, o, none⟩) n cap) low high none).run P w = .ok (.slice (some ⟨b, if cap = lo then o else o + lo * size, none⟩) (hi - lo) (cap - lo)) w := by
  have e1 : (lo : Int) ≤ hi := by omega
  have e2 : (hi : Int) ≤ cap := by omega
  by_cases hc : cap = lo
  · rw [if_pos hc]
    rcases hl with ⟨rfl, rfl⟩ | ⟨k, rfl⟩ <;> rcases hh with ⟨rfl, rfl⟩ | ⟨k', rfl⟩ <;>
      simp [Instr.sliceAt, Instr.slice, Instr.sliceBounds, Instr.sliceBound, asIntOf, run_underlying ht, hs, addr_add, hc, e1, e2, h1, h2]
    all_goals omega
  · rw [if_neg hc]
    rcases hl with ⟨rfl, rfl⟩ | ⟨k, rfl⟩ <;> rcases hh with ⟨rfl, rfl⟩ | ⟨k', rfl⟩ <;>
      simp [Instr.sliceAt, Instr.slice, Instr.sliceBounds, Instr.sliceBound, asIntOf, run_underlying ht, hs, addr_add, hc, e1, e2, h1, h2]
/-- element k of a list of rows of one length -/
theorem flat_at {α : Type} (f : α → List Value) (size : Nat) (hf : ∀ x, (f x).length = size) : ∀ (l : List α) (k : Nat) (hk : k < l.length), ((l.flatMap f).drop (k * size)).take size = f l[k] := by
  intro l
  induction l with
  | nil => intro k hk; simp at hk
  | cons x r ih =>
    intro k hk
    cases k with
    | zero => simp [List.flatMap_cons, List.take_append_of_le_length, hf, List.take_of_length_le]
    | succ k =>
      simp only [List.flatMap_cons, List.getElem_cons_succ]
      have : (k + 1) * size = (f x).length + k * size := by rw [hf, Nat.add_mul]; omega
      rw [this, List.drop_append]
      simp only [List.length_cons, Nat.add_lt_add_iff_right] at hk
      rw [List.drop_eq_nil_of_le (by omega), List.nil_append]
      have : (f x).length + k * size - (f x).length = k * size := by omega
      rw [this]
      exact ih k hk
theorem flat_len {α : Type} (f : α → List Value) (size : Nat) (hf : ∀ x, (f x).length = size) (l : List α) : (l.flatMap f).length = l.length * size := by
  induction l with
  | nil => simp
  | cons x r ih => simp only [List.flatMap_cons, List.length_append, hf, ih, List.length_cons, Nat.add_mul]; omega
end
attribute [go_sem] K_load_agg
end Go.Eng
