/-
  Memory by blocks, and maps whose keys are ints: what the operations do to them.
-/
import Derived.Test.YtinfdomlpbikaaaGreatDoorOps
import Derived.WalkSpells
namespace Go.Eng
set_option linter.unusedSimpArgs false
open Go
/-! ### blocks -/
def cellIn : Option Obj → Nat → Option Value
  | some (.cells c _ _), o => c[o]?
  | _, _ => none
def frozenIn : Option Obj → Nat → Bool
  | some (.cells _ _ (lo, hi)), o => decide (lo ≤ o) && decide (o < hi)
  | _, _ => false
def putIn (a : Addr) (v : Value) : Obj → Obj
  | .cells c e f => .cells (if a.spot.isSome then c else c.setIfInBounds a.off v) e f
  | o => o
theorem cell?_at (w : World) (b o : Nat) : w.cell? ⟨b, o, none⟩ = cellIn (w.heap[b]?) o := by
  simp only [World.cell?, cellIn]
  cases w.heap[b]? with
  | none => rfl
  | some x => cases x <;> rfl
theorem frozen?_at (w : World) (b o : Nat) : w.frozen? ⟨b, o, none⟩ = frozenIn (w.heap[b]?) o := by
  simp only [World.frozen?, frozenIn]
  cases w.heap[b]? with
  | none => rfl
  | some x => cases x <;> rfl
theorem cellIn_some (c : Array Value) (t : TypeId) (f : Nat × Nat) (o : Nat) : cellIn (some (.cells c t f)) o = c[o]? := (rfl)
theorem frozenIn_00 (c : Array Value) (t : TypeId) (o : Nat) : frozenIn (some (.cells c t (0, 0))) o = false := by simp [frozenIn]
theorem putIn_cells (b o : Nat) (v : Value) (c : Array Value) (t : TypeId) (f : Nat × Nat) : putIn ⟨b, o, none⟩ v (.cells c t f) = .cells (c.setIfInBounds o v) t f := (rfl)
theorem heap_alloc (w : World) (o : Obj) (b : Nat) : (w.alloc o).heap[b]? = if b = w.heap.size then some o else w.heap[b]? := by
  simp only [World.alloc, Array.getElem?_push]
theorem heap_setCell (w : World) (a : Addr) (v : Value) (b : Nat) : (w.setCell a v).heap[b]? = if b = a.block then (w.heap[b]?).map (putIn a v) else w.heap[b]? := by
  simp only [World.setCell, Array.getElem?_modify]
  by_cases h : b = a.block
  · subst h
    simp only [if_true]
    cases w.heap[a.block]? with
    | none => rfl
    | some x => cases x <;> rfl
  · rw [if_neg h, if_neg (fun e => h e.symm)]
theorem heap_drew (w : World) (b : Nat) : w.drew.heap[b]? = w.heap[b]? := (rfl)
theorem heap_drewN (w : World) (n b : Nat) : (w.drewN n).heap[b]? = w.heap[b]? := (rfl)
/-- a block replaced (a map's, an iterator's) -/
def _root_.Go.World.setB (w : World) (b : Nat) (o : Obj) : World := { w with heap := w.heap.setIfInBounds b o }
theorem setB_eq (w : World) (b : Nat) (o : Obj) : ({ w with heap := w.heap.setIfInBounds b o } : World) = w.setB b o := (rfl)
theorem heap_setB (w : World) (b : Nat) (o : Obj) (b' : Nat) : (w.setB b o).heap[b']? = if b' = b then (w.heap[b']?).map (fun _ => o) else w.heap[b']? := by
  simp only [World.setB, Array.getElem?_setIfInBounds]
  by_cases h : b' = b
  · subst h
    simp only [if_true]
    by_cases h2 : b' < w.heap.size
    · simp [h2]
    · simp [h2]
  · rw [if_neg h, if_neg (fun e => h e.symm)]
theorem size_setB (w : World) (b : Nat) (o : Obj) : (w.setB b o).heap.size = w.heap.size := by simp [World.setB]
theorem old_ne {w : World} {b : Nat} {o : Obj} (h : w.heap[b]? = some o) : b < w.heap.size ∧ b ≠ w.heap.size ∧ ∀ i, b ≠ w.heap.size + i := by
  have hb := (Array.getElem?_eq_some_iff.1 h).1
  exact ⟨hb, by omega, fun i => by omega⟩

theorem setRow_setB (w : World) (b : Nat) (cs : Array Value) {c : Array Value} {te : TypeId} {f : Nat × Nat} (hb : w.heap[b]? = some (.cells c te f)) : w.setRow b cs = w.setB b (.cells cs te f) := by
  unfold World.setRow World.setB
  congr 1
  apply Array.ext_getElem?
  intro k
  have hlt := (Array.getElem?_eq_some_iff.1 hb).1
  simp only [Array.getElem?_modify, Array.getElem?_setIfInBounds]
  by_cases hk : b = k
  · subst hk; rw [if_pos rfl, if_pos rfl, hb, if_pos hlt]; rfl
  · rw [if_neg hk, if_neg hk]
theorem setCell_setB (w : World) (b o : Nat) (v : Value) {c : Array Value} {te : TypeId} {f : Nat × Nat} (hb : w.heap[b]? = some (.cells c te f)) : w.setCell ⟨b, o, none⟩ v = w.setB b (.cells (c.setIfInBounds o v) te f) := by
  unfold World.setCell World.setB
  congr 1
  apply Array.ext_getElem?
  intro k
  have hlt := (Array.getElem?_eq_some_iff.1 hb).1
  simp only [Array.getElem?_modify, Array.getElem?_setIfInBounds]
  by_cases hk : b = k
  · subst hk; rw [if_pos rfl, if_pos rfl, hb, if_pos hlt]; rfl
  · rw [if_neg hk, if_neg hk]
theorem one_bool (b : Bool) : (Value.bool b).oneCell' = true := (rfl)
theorem one_int (k : IntKind) (n : Int) : (Value.int k n).oneCell' = true := (rfl)
theorem one_string (s : ByteArray) : (Value.string s).oneCell' = true := (rfl)
theorem one_pointer (a : Option Addr) : (Value.pointer a).oneCell' = true := (rfl)
theorem one_slice (a : Option Addr) (n c : Nat) : (Value.slice a n c).oneCell' = true := (rfl)
theorem one_map (r : Option Nat) : (Value.map r).oneCell' = true := (rfl)
theorem one_func (f : Fn) (x y : Array Value) : (Value.func f x y).oneCell' = true := (rfl)
theorem one_nilFunc  : (Value.nilFunc ).oneCell' = true := (rfl)
theorem one_iface (t : TypeId) (v : Value) : (Value.iface t v).oneCell' = true := (rfl)
theorem one_nilIface  : (Value.nilIface ).oneCell' = true := (rfl)
def roomIn : Obj → Nat → Bool
  | .cells c _ (0, 0), o => decide (o < c.size)
  | _, _ => false
theorem roomIn_cells (c : Array Value) (te : TypeId) (o : Nat) : roomIn (.cells c te (0, 0)) o = decide (o < c.size) := (rfl)
theorem roomIn_spec {x : Obj} {o : Nat} (h : roomIn x o = true) : ∃ c te, x = .cells c te (0, 0) ∧ o < c.size := by
  unfold roomIn at h
  split at h
  · exact ⟨_, _, rfl, by simpa using h⟩
  · cases h
/-- a part of a row -/
def cutIn : Option Obj → Nat → Nat → Option (List Value)
  | some (.cells c _ _), o, n => if o + n ≤ c.size then some ((c.toList.drop o).take n) else none
  | _, _, _ => none
theorem cutIn_some (c : Array Value) (te : TypeId) (f : Nat × Nat) (o n : Nat) : cutIn (some (.cells c te f)) o n = if o + n ≤ c.size then some ((c.toList.drop o).take n) else none := (rfl)
theorem cutIn_spec {x : Option Obj} {o n : Nat} {cs : List Value} (h : cutIn x o n = some cs) : ∃ c te f, x = some (.cells c te f) ∧ o + n ≤ c.size ∧ cs = (c.toList.drop o).take n := by
  unfold cutIn at h
  split at h
  · split at h
    · rename_i hle; cases h; exact ⟨_, _, _, rfl, hle, rfl⟩
    · cases h
  · cases h
/-- the place of a store -/
def putAt : Option Obj → Nat → Value → Option Obj
  | some (.cells c te (0, 0)), o, v => if o < c.size then some (.cells (c.setIfInBounds o v) te (0, 0)) else none
  | _, _, _ => none
theorem putAt_some (c : Array Value) (te : TypeId) (o : Nat) (v : Value) : putAt (some (.cells c te (0, 0))) o v = if o < c.size then some (.cells (c.setIfInBounds o v) te (0, 0)) else none := (rfl)
theorem putAt_spec {x : Option Obj} {o : Nat} {v : Value} {y : Obj} (h : putAt x o v = some y) : ∃ c te, x = some (.cells c te (0, 0)) ∧ o < c.size ∧ y = .cells (c.setIfInBounds o v) te (0, 0) := by
  unfold putAt at h
  split at h
  · split at h
    · rename_i hle; cases h; exact ⟨_, _, rfl, hle, rfl⟩
    · cases h
  · cases h
/-- .. of a store of many cells -/
def putsAt : Option Obj → Nat → Array Value → Option Obj
  | some (.cells c te (0, 0)), o, cs => if o + cs.size ≤ c.size then some (.cells (c.toList.take o ++ cs.toList ++ c.toList.drop (o + cs.size)).toArray te (0, 0)) else none
  | _, _, _ => none
theorem putsAt_some (c : Array Value) (te : TypeId) (o : Nat) (cs : Array Value) : putsAt (some (.cells c te (0, 0))) o cs = if o + cs.size ≤ c.size then some (.cells (c.toList.take o ++ cs.toList ++ c.toList.drop (o + cs.size)).toArray te (0, 0)) else none := (rfl)
theorem putsAt_spec {x : Option Obj} {o : Nat} {cs : Array Value} {y : Obj} (h : putsAt x o cs = some y) : ∃ c te, x = some (.cells c te (0, 0)) ∧ o + cs.size ≤ c.size ∧ y = .cells (c.toList.take o ++ cs.toList ++ c.toList.drop (o + cs.size)).toArray te (0, 0) := by
  unfold putsAt at h
  split at h
  · split at h
    · rename_i hle; cases h; exact ⟨_, _, rfl, hle, rfl⟩
    · cases h
  · cases h
/-- a row's cells -/
def rowIn : Option Obj → Option (Array Value)
  | some (.cells c _ _) => some c
  | _ => none
theorem rowIn_some (c : Array Value) (te : TypeId) (f : Nat × Nat) : rowIn (some (.cells c te f)) = some c := (rfl)
theorem rowIn_spec {x : Option Obj} {c : Array Value} (h : rowIn x = some c) : ∃ te f, x = some (.cells c te f) := by
  unfold rowIn at h
  split at h
  · cases h; exact ⟨_, _, rfl⟩
  · cases h
section
variable {P : Program} {w : World} {c : Array Value} {te : TypeId}
theorem K_store_1 (t : TypeId) (b o : Nat) (v : Value) (k : World → Prop) {y : Obj} (hy : putAt (w.heap[b]?) o v = some y) (hs : (Go.sizeOf t).run P w = .ok 1 w) (h1 : v.oneCell' = true) :
    K_store P t (.pointer (some ⟨b, o, none⟩)) v w k = k (w.setB b y) := by
  obtain ⟨c, te, hb, hlt, rfl⟩ := putAt_spec hy
  refine K_store_ok t _ _ ?_
  have hc : v.cells = #[v] := by cases v <;> first | rfl | (simp [Value.oneCell'] at h1)
  simp only [Instr.storeAt, Instr.sureAddr, Sem.run_bind, Sem.run_pure, Result.andThen_ok, storeVar, hs, hc]
  have hn : ¬ ((#[v] : Array Value).size ≠ 1) := by simp
  simp only [hn, if_false, storeCells, Sem.run_bind]
  rw [run_store _ _ _ _ _ h1]
  have ha : ((⟨b, o, none⟩ : Addr).add 0) = ⟨b, o, none⟩ := by simp [Addr.add]
  rw [ha, cell?_at, hb, cellIn_some, Array.getElem?_eq_getElem hlt, frozen?_at, hb, frozenIn_00]
  simp [setCell_setB w b o v hb]
theorem K_store_agg (t : TypeId) (b o : Nat) (cs : Array Value) (k : World → Prop) {y : Obj} (hy : putsAt (w.heap[b]?) o cs = some y) (hs : (Go.sizeOf t).run P w = .ok cs.size w) (h1 : cs.toList.all (fun v => v.oneCell') = true) :
    K_store P t (.pointer (some ⟨b, o, none⟩)) (.agg cs) w k = k (w.setB b y) := by
  obtain ⟨c, te, hb, ho, rfl⟩ := putsAt_spec hy
  refine K_store_ok t _ _ ?_
  simp only [Instr.storeAt, Instr.sureAddr, Sem.run_bind, Sem.run_pure, Result.andThen_ok, storeVar, hs, Value.cells]
  have hn' : ¬ (cs.size ≠ cs.size) := by simp
  simp only [hn', if_false]
  have := run_storeCells_at P b o te cs.toList 0 c w hb (by simpa using ho) (fun v hv => List.all_eq_true.1 h1 v hv)
  rw [this, setRow_setB w b _ hb]
  simp
end
/-! ### nothing but some blocks has turned -/
structure Upd (S : Nat → Prop) (w w' : World) : Prop where
  os : w'.os = w.os
  tape : w'.tape = w.tape
  output : w'.output = w.output
  size : w.heap.size ≤ w'.heap.size
  block : ∀ b, b < w.heap.size → ¬ S b → w'.heap[b]? = w.heap[b]?
def noB : Nat → Prop := fun _ => False
section
variable {S T : Nat → Prop} {a b c w w' : World}
theorem Upd.refl (S : Nat → Prop) (w : World) : Upd S w w := ⟨rfl, rfl, rfl, Nat.le_refl _, fun _ _ _ => rfl⟩
theorem Upd.trans (h : Upd S a b) (k : Upd S b c) : Upd S a c :=
  ⟨k.os.trans h.os, k.tape.trans h.tape, k.output.trans h.output, Nat.le_trans h.size k.size, fun i hi hn => (k.block i (Nat.lt_of_lt_of_le hi h.size) hn).trans (h.block i hi hn)⟩
/-- the second step may turn what is new since the first -/
theorem Upd.trans' (h : Upd S a b) (k : Upd T b c) (hT : ∀ i, T i → i < a.heap.size → S i) : Upd S a c :=
  ⟨k.os.trans h.os, k.tape.trans h.tape, k.output.trans h.output, Nat.le_trans h.size k.size, fun i hi hn => (k.block i (Nat.lt_of_lt_of_le hi h.size) (fun ht => hn (hT i ht hi))).trans (h.block i hi hn)⟩
theorem Upd.mono (h : Upd S a b) (hT : ∀ i, i < a.heap.size → S i → T i) : Upd T a b :=
  ⟨h.os, h.tape, h.output, h.size, fun i hi hn => h.block i hi (fun hs => hn (hT i hi hs))⟩
theorem Upd.alloc (h : Upd S a w) (o : Obj) : Upd S a (w.alloc o) :=
  ⟨h.os, h.tape, h.output, by have := h.size; simp; omega, fun i hi hn => by rw [heap_alloc, if_neg (by have := h.size; omega)]; exact h.block i hi hn⟩
theorem Upd.drew (h : Upd S a w) : Upd S a w.drew := ⟨h.os, h.tape, h.output, h.size, h.block⟩
theorem Upd.drewN (h : Upd S a w) (n : Nat) : Upd S a (w.drewN n) := ⟨h.os, h.tape, h.output, h.size, h.block⟩
theorem Upd.setCell (h : Upd S a w) (p : Addr) (v : Value) (hp : p.block < a.heap.size → S p.block) : Upd S a (w.setCell p v) :=
  ⟨h.os, h.tape, h.output, by simpa using h.size, fun i hi hn => by
    rw [heap_setCell, if_neg (fun e => hn (by subst e; exact hp hi))]; exact h.block i hi hn⟩
theorem Upd.setB (h : Upd S a w) (p : Nat) (o : Obj) (hp : p < a.heap.size → S p) : Upd S a (w.setB p o) :=
  ⟨h.os, h.tape, h.output, by rw [size_setB]; exact h.size, fun i hi hn => by
    rw [heap_setB, if_neg (fun e => hn (by subst e; exact hp hi))]; exact h.block i hi hn⟩
theorem Upd.grown {row : Option Nat} (h : Upd S a w) (hg : w.grownBy w' row) (hp : ∀ k, row = some k → k < a.heap.size → S k) : Upd S a w' :=
  ⟨hg.os.trans h.os, hg.tape.trans h.tape, hg.output.trans h.output, Nat.le_trans h.size hg.size, fun i hi hn =>
    (hg.block i (Nat.lt_of_lt_of_le hi h.size) (fun e => hn (hp i e.symm hi))).trans (h.block i hi hn)⟩
theorem Upd.get {o : Obj} (h : Upd S w w') {i : Nat} (hi : w.heap[i]? = some o) (hn : ¬ S i) : w'.heap[i]? = some o :=
  (h.block i (Array.getElem?_eq_some_iff.1 hi).1 hn).trans hi
end

/-! ### maps whose keys are ints -/
/-- the entries read as these pairs -/
def entriesOf (es : Array MapEntry) : List (Value × Value) := es.toList.map fun e => (e.key, e.val)
def kv (l : List (Int × Value)) : List (Value × Value) := l.map fun x => (.int .i64 x.1, x.2)
/-- stamps: each entry's own, all below the clock -/
def Stamped (es : Array MapEntry) (clk : Nat) : Prop := (es.toList.map (·.born)).Nodup ∧ ∀ e ∈ es.toList, e.born < clk
/-- block m of w is a map that reads as l -/
def MapAt (w : World) (m : Nat) (l : List (Int × Value)) : Prop :=
  ∃ es clk, w.heap[m]? = some (.map es clk) ∧ entriesOf es = kv l ∧ Stamped es clk ∧ (l.map (·.1)).Nodup
theorem MapAt.lt {w : World} {m : Nat} {l : List (Int × Value)} (h : MapAt w m l) : m < w.heap.size := by
  obtain ⟨es, clk, hm, _⟩ := h
  exact (Array.getElem?_eq_some_iff.1 hm).1
theorem MapAt.same {w w' : World} {m : Nat} {l : List (Int × Value)} (h : MapAt w m l) (he : w'.heap[m]? = w.heap[m]?) : MapAt w' m l := by
  obtain ⟨es, clk, hm, r⟩ := h
  exact ⟨es, clk, he.trans hm, r⟩
theorem MapAt.keep {S : Nat → Prop} {w w' : World} {m : Nat} {l : List (Int × Value)} (h : MapAt w m l) (hu : Upd S w w') (hn : ¬ S m) : MapAt w' m l :=
  h.same (hu.block m h.lt hn)
theorem mapAt_new (w : World) : MapAt (w.alloc (.map #[] 0)) w.heap.size [] :=
  ⟨#[], 0, by rw [heap_alloc, if_pos rfl], rfl, ⟨by simp, by simp⟩, by simp⟩

def lookupL (l : List (Int × Value)) (k : Int) : Option Value := (l.find? fun x => x.1 == k).map (·.2)

theorem findNow_int (k : Int) : ∀ (es : List MapEntry) (l : List (Int × Value)) (i : Nat), es.map (fun e => (e.key, e.val)) = kv l →
    Instr.findNow (.int .i64) (.int .i64 k) es i = some (((l.zipIdx i).find? fun x => x.1.1 == k).map fun x => (x.2, x.1.2)) := by
  intro es
  induction es with
  | nil =>
    intro l i h
    cases l with
    | nil => simp [Instr.findNow]
    | cons x r => simp [kv] at h
  | cons e es ih =>
    intro l i h
    cases l with
    | nil => simp [kv] at h
    | cons x r =>
      simp only [List.map_cons, kv, List.cons.injEq, Prod.mk.injEq] at h
      obtain ⟨⟨hk, hv⟩, hr⟩ := h
      simp only [Instr.findNow, hk, Instr.sameNow, if_true]
      by_cases hkk : k = x.1
      · subst hkk
        simp [hv]
      · have h1 : (k == x.1) = false := by simp [hkk]
        have h2 : (x.1 == k) = false := by simp [Ne.symm hkk]
        simp only [h1, List.zipIdx_cons, List.find?_cons, h2]
        exact ih r (i + 1) hr
theorem find_zip (l : List (Int × Value)) (k : Int) : ∀ i, (((l.zipIdx i).find? fun x => x.1.1 == k).map fun x => x.1.2) = lookupL l k := by
  induction l with
  | nil => intro i; rfl
  | cons x r ih =>
    intro i
    simp only [List.zipIdx_cons, List.find?_cons, lookupL]
    cases h : x.1 == k with
    | true => simp
    | false => exact ih (i + 1)
section
variable {P : Program} {w : World} {m : Nat} {l : List (Int × Value)} {t kt e : TypeId}
theorem run_checkKey_int (n : Nat) (b : Bool) (hk : P.underlying kt = some (.int .i64)) (k : Int) : (Instr.checkKey b (n + 1) kt (.int .i64 k)).run P w = .ok () w := by
  simp [Instr.checkKey, run_underlying hk]
theorem run_findKey_int (hk : P.underlying kt = some (.int .i64)) (k : Int) (es : List MapEntry) (h : es.map (fun e => (e.key, e.val)) = kv l) :
    (Instr.findKey kt (.int .i64 k) es).run P w = .ok (((l.zipIdx 0).find? fun x => x.1.1 == k).map fun x => (x.2, x.1.2)) w := by
  simp only [Instr.findKey, Sem.run_bind, run_underlying hk, Result.andThen_ok]
  rw [findNow_int k es l 0 h]
  simp
theorem lookupMap_run (h : MapAt w m l) (ht : P.underlying t = some (.map kt e)) (hk : P.underlying kt = some (.int .i64)) (z : Value) (hz : (zeroValue e).run P w = .ok z w) (k : Int) :
    (Instr.lookup t (.map (some m)) (.int .i64 k) false).run P w = .ok ((lookupL l k).getD z) w := by
  obtain ⟨es, clk, hm, he, _, _⟩ := h
  have hg : (getObj m).run P w = .ok (.map es clk) w := by simp [getObj, Sem.run, hm]
  simp only [Instr.lookup, Sem.run_bind, run_underlying ht, Result.andThen_ok, hg, Sem.run_pure, run_checkKey_int 9999 _ hk, run_findKey_int hk k es.toList he]
  rw [← find_zip l k 0]
  cases ((l.zipIdx 0).find? fun x => x.1.1 == k) with
  | none => simp [hz]
  | some x => simp
theorem lookupMapOk_run (h : MapAt w m l) (ht : P.underlying t = some (.map kt e)) (hk : P.underlying kt = some (.int .i64)) (z : Value) (hz : (zeroValue e).run P w = .ok z w) (k : Int) :
    (Instr.lookup t (.map (some m)) (.int .i64 k) true).run P w = .ok (.tuple #[(lookupL l k).getD z, .bool (lookupL l k).isSome]) w := by
  obtain ⟨es, clk, hm, he, _, _⟩ := h
  have hg : (getObj m).run P w = .ok (.map es clk) w := by simp [getObj, Sem.run, hm]
  simp only [Instr.lookup, Sem.run_bind, run_underlying ht, Result.andThen_ok, hg, Sem.run_pure, run_checkKey_int 9999 _ hk, run_findKey_int hk k es.toList he]
  rw [← find_zip l k 0]
  cases ((l.zipIdx 0).find? fun x => x.1.1 == k) with
  | none => simp [hz]
  | some x => simp

/-- the pairs behind a store -/
def storeL (l : List (Int × Value)) (k : Int) (v : Value) : List (Int × Value) :=
  if (lookupL l k).isSome then l.map (fun x => if x.1 == k then (x.1, v) else x) else l ++ [(k, v)]
theorem lookupL_none {k : Int} : lookupL l k = none ↔ k ∉ l.map (·.1) := by
  unfold lookupL
  simp only [Option.map_eq_none_iff, List.find?_eq_none, List.mem_map, not_exists, not_and, beq_iff_eq]
theorem lookupL_some {k : Int} {v : Value} (hd : (l.map (·.1)).Nodup) : lookupL l k = some v ↔ (k, v) ∈ l := by
  induction l with
  | nil => simp [lookupL]
  | cons x r ih =>
    simp only [List.map_cons, List.nodup_cons] at hd
    unfold lookupL at ih ⊢
    simp only [List.find?_cons]
    by_cases h : x.1 = k
    · have h2 : (x.1 == k) = true := by simp [h]
      simp only [h2, Option.map_some, Option.some.injEq, List.mem_cons]
      constructor
      · intro hv; left; rw [← hv, ← h]
      · intro hv
        rcases hv with hv | hv
        · rw [← hv]
        · exact absurd (List.mem_map.2 ⟨(k, v), hv, h.symm⟩) hd.1
    · have h2 : (x.1 == k) = false := by simp [h]
      simp only [h2, List.mem_cons]
      rw [ih hd.2]
      constructor
      · intro hv; exact Or.inr hv
      · intro hv
        rcases hv with hv | hv
        · exact absurd (by rw [← hv]) h
        · exact hv
theorem storeMap_run (h : MapAt w m l) (ht : P.underlying t = some (.map kt e)) (hk : P.underlying kt = some (.int .i64)) (k : Int) (v : Value) (hn : lookupL l k = none) :
    ∃ o, (Instr.mapUpdate t (.map (some m)) (.int .i64 k) v).run P w = .ok () (w.setB m o) ∧ MapAt (w.setB m o) m (l ++ [(k, v)]) := by
  have hlt := h.lt
  obtain ⟨es, clk, hm, he, hs, hd⟩ := h
  have hg : (getObj m).run P w = .ok (.map es clk) w := by simp [getObj, Sem.run, hm]
  have hnone : ((l.zipIdx 0).find? fun x => x.1.1 == k) = none := by
    have := find_zip l k 0
    rw [hn] at this
    simpa using this
  refine ⟨.map (es.push { key := .int .i64 k, val := v, born := clk }) (clk + 1), ?_, ?_⟩
  · simp only [Instr.mapUpdate, Sem.run_bind, run_underlying ht, Result.andThen_ok, hg, run_checkKey_int 9999 _ hk, run_findKey_int hk k es.toList he, hnone, Option.map_none]
    simp [setObj, Sem.run, hm, setB_eq]
  · refine ⟨_, _, by rw [heap_setB, if_pos rfl, hm]; rfl, ?_, ⟨?_, ?_⟩, ?_⟩
    · simp only [entriesOf, Array.toList_push, List.map_append, List.map_cons, List.map_nil, kv]
      simp only [entriesOf, kv] at he
      rw [he]
    · simp only [Array.toList_push, List.map_append, List.map_cons, List.map_nil]
      rw [List.nodup_append]
      refine ⟨hs.1, by simp, ?_⟩
      intro a ha b hb
      simp only [List.mem_singleton] at hb
      subst hb
      obtain ⟨e, he', rfl⟩ := List.mem_map.1 ha
      exact Nat.ne_of_lt (hs.2 e he')
    · intro e he'
      simp only [Array.toList_push, List.mem_append, List.mem_singleton] at he'
      rcases he' with he' | rfl
      · exact Nat.lt_succ_of_lt (hs.2 e he')
      · exact Nat.lt_succ_self _
    · simp only [List.map_append, List.map_cons, List.map_nil]
      rw [List.nodup_append]
      refine ⟨hd, by simp, ?_⟩
      intro a ha b hb
      simp only [List.mem_singleton] at hb
      subst hb
      intro e
      subst e
      exact (lookupL_none.1 hn) ha
theorem map_eraseIdx {α β : Type} (f : α → β) : ∀ (l : List α) (i : Nat), (l.eraseIdx i).map f = (l.map f).eraseIdx i := by
  intro l
  induction l with
  | nil => intro i; rfl
  | cons x r ih => intro i; cases i with
    | zero => rfl
    | succ i => simp [ih]
theorem perm_eraseIdx {α : Type} : ∀ (l : List α) (i : Nat) (h : i < l.length), (l[i] :: l.eraseIdx i).Perm l := by
  intro l
  induction l with
  | nil => intro i h; simp at h
  | cons x r ih => intro i h; cases i with
    | zero => exact List.Perm.refl _
    | succ i =>
      simp only [List.getElem_cons_succ, List.eraseIdx_cons_succ]
      exact (List.Perm.swap _ _ _).trans ((ih i (by simpa using h)).cons x)
theorem nodup_eraseIdx {α : Type} : ∀ (l : List α) (i : Nat), l.Nodup → (l.eraseIdx i).Nodup := by
  intro l i h
  exact h.sublist (List.eraseIdx_sublist l i)
theorem find_zip_idx (k : Int) : ∀ (l : List (Int × Value)) (i j : Nat) (v : Value), (((l.zipIdx i).find? fun x => x.1.1 == k).map fun x => (x.2, x.1.2)) = some (j, v) → (l.map (·.1)).Nodup →
    i ≤ j ∧ l.eraseIdx (j - i) = l.filter (fun x => x.1 != k) := by
  intro l
  induction l with
  | nil => intro i j v h; simp at h
  | cons x r ih =>
    intro i j v h hd
    simp only [List.map_cons, List.nodup_cons] at hd
    simp only [List.zipIdx_cons, List.find?_cons] at h
    by_cases hx : x.1 = k
    · have h2 : (x.1 == k) = true := by simp [hx]
      simp only [h2, Option.map_some, Option.some.injEq, Prod.mk.injEq] at h
      obtain ⟨rfl, _⟩ := h
      refine ⟨Nat.le_refl _, ?_⟩
      have hr : r.filter (fun x => x.1 != k) = r := by
        rw [List.filter_eq_self]
        intro a ha
        simp only [bne_iff_ne, ne_eq]
        intro e
        exact hd.1 (List.mem_map.2 ⟨a, ha, e.trans hx.symm⟩)
      simp [hx, hr]
    · have h2 : (x.1 == k) = false := by simp [hx]
      simp only [h2] at h
      obtain ⟨hle, he⟩ := ih (i + 1) j v h hd.2
      refine ⟨by omega, ?_⟩
      have : j - i = (j - (i + 1)) + 1 := by omega
      rw [this, List.eraseIdx_cons_succ, he]
      simp [hx]
/-- delete -/
theorem deleteMap_run (ty : TypeId) (kt' : TypeId) (h : MapAt w m l) (ht : P.underlying t = some (.map kt e)) (hk : P.underlying kt = some (.int .i64)) (k : Int) :
    ∃ o, (Builtin.delete_ #[t, kt'] ty #[.map (some m), .int .i64 k]).run P w = .ok (.tuple #[]) (w.setB m o) ∧ MapAt (w.setB m o) m (l.filter fun x => x.1 != k) := by
  have hlt := h.lt
  obtain ⟨es, clk, hm, he, hs, hd⟩ := h
  have hg : (getObj m).run P w = .ok (.map es clk) w := by simp [getObj, Sem.run, hm]
  cases hf : (((l.zipIdx 0).find? fun x => x.1.1 == k).map fun x => (x.2, x.1.2)) with
  | none =>
    refine ⟨.map es clk, ?_, ?_⟩
    · simp [Builtin.delete_, run_underlying ht, hg, run_checkKey_int 9999 _ hk, run_findKey_int hk k es.toList he, hf, setObj, Sem.run, hm, setB_eq]
    · refine ⟨es, clk, by simp [heap_setB, hm], ?_, hs, ?_⟩
      · have hn : lookupL l k = none := by
          rw [← find_zip l k 0]
          simpa using hf
        have : l.filter (fun x => x.1 != k) = l := by
          rw [List.filter_eq_self]
          intro a ha
          simp only [bne_iff_ne, ne_eq]
          intro e
          exact (lookupL_none.1 hn) (List.mem_map.2 ⟨a, ha, e⟩)
        rw [this]; exact he
      · exact hd.sublist (List.filter_sublist.map _)
  | some x =>
    obtain ⟨i, v⟩ := x
    refine ⟨.map (es.eraseIdxIfInBounds i) clk, ?_, ?_⟩
    · simp [Builtin.delete_, run_underlying ht, hg, run_checkKey_int 9999 _ hk, run_findKey_int hk k es.toList he, hf, setObj, Sem.run, hm, setB_eq]
    · have hi := (find_zip_idx k l 0 i v hf hd).2
      simp only [Nat.sub_zero] at hi
      have ht : (es.eraseIdxIfInBounds i).toList = es.toList.eraseIdx i := by
        unfold Array.eraseIdxIfInBounds
        split
        · simp
        · rename_i hge
          rw [List.eraseIdx_of_length_le (by simpa using hge)]
      refine ⟨_, _, by rw [heap_setB, if_pos rfl, hm]; rfl, ?_, ⟨?_, ?_⟩, ?_⟩
      · rw [← hi]
        simp only [entriesOf, ht, kv, map_eraseIdx]
        simp only [entriesOf, kv] at he
        rw [he]
      · rw [ht, map_eraseIdx]
        exact nodup_eraseIdx _ _ hs.1
      · intro e he'
        rw [ht] at he'
        exact hs.2 e (List.mem_of_mem_eraseIdx he')
      · exact hd.sublist (List.filter_sublist.map _)

/-! ### going through a map that stays as it is -/
def unseen (seen : Array Nat) (e : MapEntry) : Bool := !seen.contains e.born
/-- block 'it' goes through map m (which reads as 'all'); 'rem' is still to come; 'cur' came last -/
def IterAt (w : World) (it m : Nat) (all rem : List (Int × Value)) (cur : Option (Int × Value)) : Prop :=
  ∃ es clk seen, w.heap[m]? = some (.map es clk) ∧ w.heap[it]? = some (.mapIter (some m) clk seen clk) ∧ entriesOf es = kv all ∧ Stamped es clk ∧ (all.map (·.1)).Nodup ∧
    (es.toList.filter (unseen seen)).map (fun e => (e.key, e.val)) = kv rem ∧
    ∀ c, cur = some c → ∃ e, e ∈ es.toList ∧ seen.back? = some e.born ∧ e.key = .int .i64 c.1 ∧ e.val = c.2
theorem IterAt.keep {S : Nat → Prop} {w w' : World} {it m : Nat} {all rem : List (Int × Value)} {cur : Option (Int × Value)} (h : IterAt w it m all rem cur) (hu : Upd S w w') (hi : ¬ S it) (hm : ¬ S m) : IterAt w' it m all rem cur := by
  obtain ⟨es, clk, seen, h1, h2, r⟩ := h
  exact ⟨es, clk, seen, hu.get h1 hm, hu.get h2 hi, r⟩
theorem IterAt.map {w : World} {it m : Nat} {all rem : List (Int × Value)} {cur : Option (Int × Value)} (h : IterAt w it m all rem cur) : MapAt w m all := by
  obtain ⟨es, clk, seen, h1, h2, h3, h4, h5, _⟩ := h
  exact ⟨es, clk, h1, h3, h4, h5⟩
theorem IterAt.lt {w : World} {it m : Nat} {all rem : List (Int × Value)} {cur : Option (Int × Value)} (h : IterAt w it m all rem cur) : it < w.heap.size := by
  obtain ⟨es, clk, seen, h1, h2, _⟩ := h
  exact (Array.getElem?_eq_some_iff.1 h2).1
section
variable {P : Program} {w : World} {it m : Nat} {all rem l : List (Int × Value)} {t kt e : TypeId} {cur : Option (Int × Value)}
theorem rangeMap_run (h : MapAt w m l) (ht : P.underlying t = some (.map kt e)) :
    ∃ o, (Instr.range t (.map (some m))).run P w = .ok (.pointer (some ⟨w.heap.size, 0, none⟩)) (w.alloc o) ∧ IterAt (w.alloc o) w.heap.size m l l none := by
  obtain ⟨es, clk, hm, he, hs, hd⟩ := h
  have hg : (getObj m).run P w = .ok (.map es clk) w := by simp [getObj, Sem.run, hm]
  refine ⟨.mapIter (some m) clk #[] clk, ?_, es, clk, #[], ?_, ?_, he, hs, hd, ?_, by simp⟩
  · simp only [Instr.range, Sem.run_bind, run_underlying ht, Result.andThen_ok, hg, Sem.run_pure, run_newObj]
    rfl
  · rw [heap_alloc, if_neg (old_ne hm).2.1]; exact hm
  · rw [heap_alloc, if_pos rfl]
  · have : es.toList.filter (unseen #[]) = es.toList := by
      rw [List.filter_eq_self]; intro a _; simp [unseen]
    rw [this]; exact he
theorem filter_push (es : List MapEntry) (seen : Array Nat) (hn : (es.map (·.born)).Nodup) : ∀ i (hi : i < (es.filter (unseen seen)).length),
    es.filter (unseen (seen.push ((es.filter (unseen seen))[i]).born)) = (es.filter (unseen seen)).eraseIdx i := by
  induction es with
  | nil => intro i hi; simp at hi
  | cons x r ih =>
    simp only [List.map_cons, List.nodup_cons] at hn
    intro i hi
    cases hx : unseen seen x with
    | false =>
      have e1 : (x :: r).filter (unseen seen) = r.filter (unseen seen) := by simp [hx]
      simp only [e1] at hi ⊢
      have : unseen (seen.push ((r.filter (unseen seen))[i]).born) x = false := by
        simp only [unseen, Bool.not_eq_false'] at hx ⊢
        simp only [Array.contains_push, hx, Bool.true_or]
      rw [List.filter_cons, this]
      exact ih hn.2 i hi
    | true =>
      have e1 : (x :: r).filter (unseen seen) = x :: r.filter (unseen seen) := by simp [hx]
      simp only [e1] at hi ⊢
      cases i with
      | zero =>
        simp only [List.getElem_cons_zero, List.eraseIdx_cons_zero]
        have : unseen (seen.push x.born) x = false := by simp [unseen]
        rw [List.filter_cons, this]
        simp only [Bool.false_eq_true, if_false]
        refine List.filter_congr fun y hy => ?_
        have hne : y.born ≠ x.born := fun e => hn.1 (List.mem_map.2 ⟨y, hy, e⟩)
        simp only [unseen, Array.contains_push]
        simp [hne]
      | succ i =>
        simp only [List.length_cons, Nat.add_lt_add_iff_right] at hi
        simp only [List.getElem_cons_succ, List.eraseIdx_cons_succ]
        have hmem : (r.filter (unseen seen))[i] ∈ r := (List.mem_filter.1 (List.getElem_mem hi)).1
        have hne : x.born ≠ ((r.filter (unseen seen))[i]).born := fun e => hn.1 (List.mem_map.2 ⟨_, hmem, e.symm⟩)
        have : unseen (seen.push ((r.filter (unseen seen))[i]).born) x = true := by
          simp only [unseen, Bool.not_eq_true'] at hx ⊢
          simp only [Array.contains_push, hx]
          simp [hne]
        rw [List.filter_cons, this]
        simp only [if_true]
        rw [ih hn.2 i hi]
/-- the step: none is left, or one of those that are has come -/
theorem nextMap_run (ty : TypeId) (h : IterAt w it m all rem cur) :
    (rem = [] ∧ (Instr.next (.pointer (some ⟨it, 0, none⟩)) false ty).run P w = .ok (.tuple #[.bool false]) w) ∨
    ∃ (i : Nat) (hi : i < rem.length) (w1 : World) (o : Obj), (w1 = w ∨ w1 = w.drew) ∧
      (Instr.next (.pointer (some ⟨it, 0, none⟩)) false ty).run P w = .ok (.tuple #[.bool true, .int .i64 rem[i].1, rem[i].2]) (w1.setB it o) ∧
      IterAt (w1.setB it o) it m all (rem.eraseIdx i) (some rem[i]) := by
  obtain ⟨es, clk, seen, hm, hit, he, hs, hd, hr, hc⟩ := h
  have hg : (getObj m).run P w = .ok (.map es clk) w := by simp [getObj, Sem.run, hm]
  have hgi : (getObj it).run P w = .ok (.mapIter (some m) clk seen clk) w := by simp [getObj, Sem.run, hit]
  have hne : m ≠ it := fun e => by subst e; rw [hm] at hit; cases hit
  have hall : (!seen.isEmpty && !es.isEmpty && es.all (fun e => decide (e.born ≥ clk))) = false := by
    cases hes : es.isEmpty with
    | true => simp
    | false =>
      have : ∃ x, x ∈ es.toList := by
        cases hl : es.toList with
        | nil => simp [Array.isEmpty, ← Array.length_toList, hl] at hes
        | cons x r => exact ⟨x, by simp⟩
      obtain ⟨x, hx⟩ := this
      have hlt := hs.2 x hx
      have : es.all (fun e => decide (e.born ≥ clk)) = false := by
        rw [← Array.all_toList, List.all_eq_false]
        exact ⟨x, hx, by simp; omega⟩
      simp [this]
  have hleft : (es.filter fun e => !seen.contains e.born) = (es.toList.filter (unseen seen)).toArray := by
    apply Array.toList_inj.1
    simp only [Array.toList_filter]
    rfl
  have hold : ((es.toList.filter (unseen seen)).toArray.filter fun e => decide (e.born < clk)) = (es.toList.filter (unseen seen)).toArray := by
    apply Array.toList_inj.1
    simp only [Array.toList_filter, List.filter_eq_self]
    intro a ha
    have := hs.2 a (List.mem_filter.1 ha).1
    simpa using this
  have hnew : ((es.toList.filter (unseen seen)).toArray.filter fun e => decide (e.born ≥ clk)) = #[] := by
    apply Array.toList_inj.1
    simp only [Array.toList_filter, List.filter_eq_nil_iff]
    intro a ha
    have := hs.2 a (List.mem_filter.1 ha).1
    simp; omega
  have hrl : (es.toList.filter (unseen seen)).length = rem.length := by
    have := congrArg List.length hr
    simpa [kv] using this
  have hrun : (Instr.next (.pointer (some ⟨it, 0, none⟩)) false ty).run P w = (do
      let candidates := (if (es.toList.filter (unseen seen)).toArray.isEmpty then #[none] else #[]) ++ ((es.toList.filter (unseen seen)).toArray).map some
      match candidates[← choose (.mapNext candidates.size)]? with
      | some (some e) =>
        setObj it (.mapIter (some m) clk (seen.push e.born) clk)
        pure (.tuple #[.bool true, e.key, e.val])
      | some none => pure (.tuple #[.bool false])
      | none => stuck "Next: no such candidate" : Sem Value).run P w := by
    simp only [Instr.next, Sem.run_bind, hgi, Result.andThen_ok, hg, hall, Bool.false_eq_true, if_false, hleft, hold, hnew, Array.append_empty]
    rfl
  cases hl : es.toList.filter (unseen seen) with
  | nil =>
    left
    have hrem : rem = [] := by rw [hl] at hrl; exact List.eq_nil_of_length_eq_zero hrl.symm
    refine ⟨hrem, ?_⟩
    rw [hrun, hl]
    simp [Question.forced]
  | cons x r =>
    right
    have key : ∀ j, j < (x :: r).length → ∀ w1, (w1 = w ∨ w1 = w.drew) →
        ∃ (i : Nat) (hi : i < rem.length) (w2 : World) (o : Obj), (w2 = w ∨ w2 = w.drew) ∧
          ((do
            match ((x :: r).toArray.map some)[j]? with
            | some (some e) =>
              setObj it (.mapIter (some m) clk (seen.push e.born) clk)
              pure (.tuple #[.bool true, e.key, e.val])
            | some none => pure (.tuple #[.bool false])
            | none => stuck "Next: no such candidate" : Sem Value).run P w1) = .ok (.tuple #[.bool true, .int .i64 rem[i].1, rem[i].2]) (w2.setB it o) ∧
          IterAt (w2.setB it o) it m all (rem.eraseIdx i) (some rem[i]) := by
      intro j hj w1 hw1
      have hj2 : j < rem.length := by rw [← hrl, hl]; exact hj
      have hheap : w1.heap = w.heap := by rcases hw1 with h | h <;> (rw [h]; try rfl)
      have hh1 : ∀ b : Nat, w1.heap[b]? = w.heap[b]? := fun b => by rw [hheap]
      have hget : ((x :: r).toArray.map some)[j]? = some (some (x :: r)[j]) := by simp only [Array.getElem?_map, List.getElem?_toArray, List.getElem?_eq_getElem hj, Option.map_some]
      have hpair : ((x :: r)[j].key, (x :: r)[j].val) = (.int .i64 rem[j].1, rem[j].2) := by
        have h1 : (((x :: r).map fun e => (e.key, e.val)))[j]? = (kv rem)[j]? := by rw [← hl, hr]
        have hj3 : j < (x :: r).length := hj
        simp only [List.getElem?_map, kv, List.getElem?_eq_getElem hj3, List.getElem?_eq_getElem hj2, Option.map_some, Option.some.injEq] at h1
        exact h1
      simp only [Prod.mk.injEq] at hpair
      refine ⟨j, hj2, w1, .mapIter (some m) clk (seen.push (x :: r)[j].born) clk, hw1, ?_, ?_⟩
      · simp only [hget, Sem.run_bind]
        simp [setObj, Sem.run, hh1, hit, hpair.1, hpair.2, setB_eq]
      · refine ⟨es, clk, seen.push (x :: r)[j].born, ?_, ?_, he, hs, hd, ?_, ?_⟩
        · rw [heap_setB, if_neg hne, hh1]; exact hm
        · rw [heap_setB, if_pos rfl, hh1, hit]; rfl
        · have hfp := filter_push es.toList seen hs.1 j (by rw [hl]; exact hj)
          have e1 : ((es.toList.filter (unseen seen))[j]'(by rw [hl]; exact hj)) = (x :: r)[j] := by simp [hl]
          rw [e1] at hfp
          rw [hfp, map_eraseIdx, hr]
          simp [kv, map_eraseIdx]
        · intro c hc
          simp only [Option.some.injEq] at hc
          subst hc
          refine ⟨(x :: r)[j], ?_, by simp, hpair.1, hpair.2⟩
          have : (x :: r)[j] ∈ es.toList.filter (unseen seen) := by rw [hl]; exact List.getElem_mem hj
          exact (List.mem_filter.1 this).1
    have hce : (x :: r).toArray.isEmpty = false := by simp
    rw [hrun, hl]
    simp only [hce, Bool.false_eq_true, if_false, Array.empty_append, Sem.run_bind, run_choose]
    have hsz : ((x :: r).toArray.map some).size = (x :: r).length := by simp
    split
    · exact key 0 (by simp) w (Or.inl rfl)
    · refine key _ ?_ w.drew (Or.inr rfl)
      rw [hsz]
      exact Nat.mod_lt _ (by simp)
theorem entryMap_run {c : Int × Value} (h : IterAt w it m all rem (some c)) : (Instr.entry (.pointer (some ⟨it, 0, none⟩))).run P w = .ok (.tuple #[.int .i64 c.1, c.2]) w := by
  obtain ⟨es, clk, seen, hm, hit, he, hs, hd, hr, hc⟩ := h
  have hg : (getObj m).run P w = .ok (.map es clk) w := by simp [getObj, Sem.run, hm]
  have hgi : (getObj it).run P w = .ok (.mapIter (some m) clk seen clk) w := by simp [getObj, Sem.run, hit]
  obtain ⟨e, hmem, hb, hk, hv⟩ := hc c rfl
  have hfind : es.find? (fun x => x.born == e.born) = some e := by
    rw [← Array.find?_toList]
    have : ∀ (l : List MapEntry), (l.map (·.born)).Nodup → e ∈ l → l.find? (fun x => x.born == e.born) = some e := by
      intro l
      induction l with
      | nil => intro _ h; cases h
      | cons y r ih =>
        intro hn hmem
        simp only [List.map_cons, List.nodup_cons] at hn
        rcases List.mem_cons.1 hmem with rfl | hmem
        · simp
        · have hne : y.born ≠ e.born := fun h => hn.1 (List.mem_map.2 ⟨e, hmem, h.symm⟩)
          have : (y.born == e.born) = false := by simp [hne]
          rw [List.find?_cons, this]
          exact ih hn.2 hmem
    exact this es.toList hs.1 hmem
  simp only [Instr.entry, Sem.run_bind, hgi, Result.andThen_ok, hb, hg]
  simp [hfind, hk, hv]
end
end
attribute [go_sem ↓] heap_alloc heap_setCell heap_setB heap_drew heap_drewN
attribute [go_sem] one_bool one_int one_string one_pointer one_slice one_map one_func one_nilFunc one_iface one_nilIface cutIn_some putAt_some putsAt_some rowIn_some K_store_1 K_store_agg cell?_at frozen?_at cellIn_some frozenIn_00 putIn_cells size_setB setB_eq
end Go.Eng
