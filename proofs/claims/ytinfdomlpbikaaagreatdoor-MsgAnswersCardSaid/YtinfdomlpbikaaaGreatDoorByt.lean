/-
  Rows of bytes, and numbers as bytes: plain laws, and what the operations do to them.
-/
import Derived.Test.YtinfdomlpbikaaaGreatDoorProg
import Derived.Test.YtinfdomlpbikaaaGreatDoorDraw
import Derived.ChangeKeysEq
namespace Go.Eng
open Go
set_option linter.unusedSimpArgs false
set_option linter.unusedVariables false
/-! ### numbers -/
def u8V (b : UInt8) : Value := .int .u8 (b.toNat : Int)
theorem u8V_one (b : UInt8) : (u8V b).oneCell' = true := (rfl)
/-- n's lowest k digits to the base 256, the lowest first -/
def leB (n : Nat) : Nat → List UInt8
  | 0 => []
  | k + 1 => UInt8.ofNat n :: leB (n / 256) k
theorem leB_len : ∀ (k n : Nat), (leB n k).length = k
  | 0, _ => rfl
  | k + 1, n => by simp [leB, leB_len k]
theorem leB_get : ∀ (k n i : Nat), i < k → (leB n k)[i]? = some (UInt8.ofNat (n / 256 ^ i))
  | 0, _, _, h => absurd h (by omega)
  | k + 1, n, 0, _ => by simp [leB]
  | k + 1, n, i + 1, h => by
    simp only [leB, List.getElem?_cons_succ]
    rw [leB_get k (n / 256) i (by omega), Nat.div_div_eq_div_mul, Nat.pow_succ, Nat.mul_comm (256 ^ i)]
theorem leB_snoc : ∀ (k n : Nat), leB n (k + 1) = leB n k ++ [UInt8.ofNat (n / 256 ^ k)]
  | 0, n => by simp [leB]
  | k + 1, n => by
    rw [leB, leB_snoc k (n / 256), leB, List.cons_append, Nat.div_div_eq_div_mul, Nat.pow_succ, Nat.mul_comm (256 ^ k)]
def numB : List UInt8 → Nat
  | [] => 0
  | b :: r => b.toNat + 256 * numB r
theorem numB_lt : ∀ l : List UInt8, numB l < 256 ^ l.length
  | [] => by simp [numB]
  | b :: r => by
    have := numB_lt r
    have hb : b.toNat < 256 := b.toNat_lt
    simp only [numB, List.length_cons, Nat.pow_succ]
    omega
theorem numB_append : ∀ a b : List UInt8, numB (a ++ b) = numB a + 256 ^ a.length * numB b
  | [], b => by simp [numB]
  | x :: a, b => by
    simp only [List.cons_append, numB, numB_append a b, List.length_cons, Nat.pow_succ, Nat.mul_add]
    rw [Nat.mul_comm (256 ^ a.length) 256, Nat.mul_assoc, Nat.add_assoc]
theorem numB_leB : ∀ (k n : Nat), numB (leB n k) = n % 256 ^ k
  | 0, n => by simp [leB, numB, Nat.mod_one]
  | k + 1, n => by
    simp only [leB, numB, numB_leB k]
    rw [Nat.pow_succ, Nat.mul_comm (256 ^ k), Nat.mod_mul]
    simp
theorem leB_numB : ∀ l : List UInt8, leB (numB l) l.length = l
  | [] => rfl
  | b :: r => by
    have hb : b.toNat < 256 := b.toNat_lt
    simp only [numB, List.length_cons, leB]
    have h1 : (b.toNat + 256 * numB r) / 256 = numB r := by omega
    rw [h1, leB_numB r]
    congr 1
    apply UInt8.toNat_inj.1
    simp
/-! ### rows of bytes -/
/-- v is a slice that reads as these bytes -/
def CapOk : Value → Prop
  | .slice _ n cap => n ≤ cap
  | _ => True
def BytesAt (w : World) (v : Value) (l : List UInt8) : Prop := RowAt w 1 v l.length (l.map u8V) ∧ CapOk v
theorem capOk_own {w : World} {base n : Nat} {e : TypeId} {size : Nat} {v : Value} {xs : List Value} (h : w.ownsRow base e size v n xs) : CapOk v := by
  rcases h.2 with ⟨rfl, rfl⟩ | ⟨b, cap, cur, rfl, _, _, hnc, _⟩
  · exact Nat.le_refl _
  · exact hnc
theorem BytesAt.keep {S : Nat → Prop} {w w' : World} {v : Value} {l : List UInt8} (h : BytesAt w v l) (hu : Upd S w w') (hn : ∀ b, v.ownBlock = some b → ¬ S b) : BytesAt w' v l := ⟨RowAt.keep h.1 hu hn, h.2⟩
theorem BytesAt.keep0 {w w' : World} {v : Value} {l : List UInt8} (h : BytesAt w v l) (hu : Upd noB w w') : BytesAt w' v l := ⟨RowAt.keep h.1 hu (fun _ _ h => h), h.2⟩
theorem BytesAt.len {w : World} {v : Value} {l : List UInt8} (h : BytesAt w v l) : ∃ p cap, v = .slice p l.length cap ∧ l.length ≤ cap := by
  obtain ⟨p, cap, rfl⟩ := RowAt.len h.1
  exact ⟨p, cap, rfl, h.2⟩
theorem bytesAt_nil (w : World) (p : Option Addr) (cap : Nat) : BytesAt w (.slice p 0 cap) [] := ⟨⟨by simp, Or.inl ⟨p, cap, rfl, rfl⟩⟩, Nat.zero_le _⟩
section
variable {P : Program} {w : World} {t e : TypeId}
theorem BytesAt.at {v : Value} {l : List UInt8} (h : BytesAt w v l) (ht : P.underlying t = some (.slice e)) (hs : ∀ w, (Go.sizeOf e).run P w = .ok 1 w) (ha : ∀ w, (isAgg e).run P w = .ok false w) (k : Nat) (hk : k < l.length) :
    ∃ q, (∀ kk W, (Instr.indexAt t v (.int kk k)).run P W = .ok (.pointer (some q)) W) ∧ (Instr.loadAt e (.pointer (some q))).run P w = .ok (.int .u8 (l[k].toNat : Int)) w ∧ ∀ K, K_load P e (.pointer (some q)) w K = K (.int .u8 (l[k].toNat : Int)) w := by
  have hx : (l.map u8V)[k]? = some (.int .u8 (l[k].toNat : Int)) := by rw [List.getElem?_map, List.getElem?_eq_getElem hk]; rfl
  obtain ⟨b, off, c, te, f, _, hi, hb, hle, hc⟩ := RowAt.index h.1 ht hs k hk
  have key : (Instr.loadAt e (.pointer (some ⟨b, off + k * 1, none⟩))).run P w = .ok (.int .u8 (l[k].toNat : Int)) w := by
    have h0 := hc 0 (by omega)
    simp only [Nat.mul_one, Nat.add_zero] at h0
    rw [hx] at h0
    simp only [Instr.loadAt, Instr.sureAddr, Sem.run_bind, Sem.run_pure, Result.andThen_ok, loadVar, ha, Bool.false_eq_true, if_false, run_load, cell?_at, hb, cellIn_some, Nat.mul_one, h0]
  refine ⟨_, ?_, key, fun K => K_load_ok K _ _ key⟩
  intro kk W
  obtain ⟨p, cap, rfl, _⟩ := h.len
  have h2 := hi kk
  cases p with
  | none => simp [Instr.indexAt, asIntOf, run_underlying ht, hs, hk] at h2; cases ‹(Value.slice none l.length cap).ownBlock = some b›
  | some p =>
    simp [Instr.indexAt, asIntOf, run_underlying ht, hs, hk] at h2 ⊢
    exact h2
/-- a part of it -/
theorem BytesAt.cut {p : Option Addr} {cap lo hi m : Nat} {l : List UInt8} (h : BytesAt w (.slice p l.length cap) l) (h1 : lo ≤ hi) (h2 : hi ≤ l.length) (h3 : hi ≤ m) : BytesAt w (sliced p lo hi m 1) ((l.drop lo).take (hi - lo)) := by
  have hlen : ((l.drop lo).take (hi - lo)).length = hi - lo := by simp; omega
  refine ⟨?_, by unfold sliced; exact Nat.sub_le_sub_right h3 _⟩
  rw [hlen]
  refine ⟨by simp; omega, ?_⟩
  by_cases h0 : hi - lo = 0
  · rw [h0]
    exact Or.inl ⟨_, _, by unfold sliced; rw [h0], rfl⟩
  · rcases h.1.2 with ⟨p', cap', hv, hn⟩ | ⟨b, off, cap', c, te, f, hv, hb, hle, htake⟩
    · omega
    · injection hv with hp _ hcap
      subst hp hcap
      have hm : ¬ m = lo := by omega
      refine Or.inr ⟨b, off + lo, m - lo, c, te, f, ?_, hb, by omega, ?_⟩
      · unfold sliced
        simp [hm, addr_add]
      · apply List.ext_getElem?
        intro j
        rw [List.getElem?_take, List.getElem?_map, List.getElem?_take]
        by_cases hj : j < hi - lo
        · rw [if_pos (by omega), if_pos hj, List.getElem?_drop, List.getElem?_drop, ← List.getElem?_map, ← htake, List.getElem?_take, if_pos (by omega), List.getElem?_drop]
          congr 1; omega
        · rw [if_neg (by omega), if_neg hj]; rfl
/-! ### own rows of bytes -/
variable {size bytes : Nat}
theorem SlT.append_row (T : SlT P t e size bytes) {base : Nat} {v s : Value} {n m : Nat} {xs news : List Value} (own : w.ownsRow base e size v n xs) (src : RowAt w size s m news) (ty : TypeId) (h1 : ∀ u ∈ news, u.oneCell' = true)
    (hroom : (n + m) * bytes ≤ 140737488355328) (hmax : n + m ≤ maxLen) (hbase : base ≤ w.heap.size) :
    ∃ v' w', (Builtin.append_ #[t, t] ty #[v, s]).run P w = .ok v' w' ∧ w'.ownsRow base e size v' (n + m) (xs ++ news) ∧ w.grownBy w' v.ownBlock := by
  obtain ⟨i, z, hi, hz, hs, hb, hzs⟩ := T.info
  rcases src.2 with ⟨p, cap, rfl, rfl⟩ | ⟨b, off, cap, c, te, f, rfl, hbb, hle, htake⟩
  · have hn : news = [] := List.eq_nil_of_length_eq_zero (by simpa using src.1)
    subst hn
    cases p with
    | some a =>
      obtain ⟨v', w', h1, h2, h3, _⟩ := run_append_own w base t ty e i z size bytes T.ht hi hz hs hb hzs T.pos v n xs own a 0 cap [] (by simp) (by simp) (by simp) hmax hroom hbase
      exact ⟨v', w', h1, h2, h3⟩
    | none =>
      refine ⟨v, w, ?_, by simpa using own, rfl, rfl, rfl, Nat.le_refl _, fun _ _ _ => rfl⟩
      rcases own.2 with ⟨rfl, rfl⟩ | ⟨g, cap', cur, rfl, hbg, hg, hnc, hcm, hcs, htake⟩
      · simp [Builtin.append_, run_underlying T.ht, sizeOf, typeInfo, hi, Builtin.lenOf, Builtin.firstCells]
      · simp [Builtin.append_, run_underlying T.ht, sizeOf, typeInfo, hi, Builtin.lenOf, Builtin.firstCells, hnc, storeCells]
  · obtain ⟨v', w', h2, h3, h4, _⟩ := T.append own ty hbb news htake.symm hle h1 hroom hmax hbase (c := cap)
    exact ⟨v', w', h2, h3, h4⟩
/-- a block of one-cell things is a row of the call's own -/
theorem own_block {base b cap : Nat} {c : Array Value} (hb : w.heap[b]? = some (.cells c e (0, 0))) (hbase : base ≤ b) (hc : c.size = cap) (hmax : cap ≤ maxLen) : w.ownsRow base e 1 (.slice (some ⟨b, 0, none⟩) cap cap) cap c.toList :=
  ⟨by simp [hc], Or.inr ⟨b, cap, c, rfl, hbase, hb, Nat.le_refl _, hmax, by simp [hc], by rw [List.take_of_length_le (by simp [hc])]⟩⟩
theorem SlT.makeB (T : SlT P t e 1 1) (hz : ∀ i, P.info? e = some i → i.zero = some (.int .u8 0)) (n : Nat) (hn : n ≤ 281474976710656) (kl kc : IntKind) :
    (Instr.makeSlice t (.int kl n) (.int kc n)).run P w = .ok (.slice (some ⟨w.heap.size, 0, none⟩) n n) (w.alloc (.cells ((List.replicate n (0 : UInt8)).map u8V).toArray e)) := by
  obtain ⟨i, z, hi, hz', hs, hb, hzs⟩ := T.info
  have hz2 : z = .int .u8 0 := by have := hz i hi; rw [hz'] at this; exact Option.some.inj this
  subst hz2
  have := run_make (P := P) w t e i (.int .u8 0) T.ht hi hz' kl kc n n (by omega) (by omega) (by rw [hb]; omega) (by omega)
  rw [this]
  congr 3
  · apply Array.ext_getElem?
    intro j
    simp only [madeCells, hs, Int.toNat_natCast, Nat.mul_one]
    by_cases hj : j < n
    · simp [hj, Value.cells, u8V, List.getElem?_replicate, Nat.mod_one]
    · simp [hj, List.getElem?_replicate]
/-! ### a slice that is written out -/
theorem fold_put : ∀ (l : List Value) (k o : Nat) (a : Array Value), o + k + l.length ≤ a.size →
    ((l.zipIdx k).foldl (fun cs (x : Value × Nat) => cs.setIfInBounds (o + x.2) x.1) a).toList = a.toList.take (o + k) ++ l ++ a.toList.drop (o + k + l.length)
  | [], k, o, a, h => by simp
  | x :: l, k, o, a, h => by
    simp only [List.length_cons] at h
    simp only [List.zipIdx_cons, List.foldl_cons]
    rw [fold_put l (k + 1) o _ (by simp; omega)]
    have hl2 : a.toList.length = a.size := Array.length_toList
    have hlt : o + k < a.toList.length := by omega
    have e1 : (a.setIfInBounds (o + k) x).toList = a.toList.set (o + k) x := by simp
    rw [e1, ← Nat.add_assoc, List.take_succ_eq_append_getElem (by simp; omega), List.take_set_of_le (by omega), List.drop_set_of_lt (by omega)]
    simp only [List.getElem_set_self, List.append_assoc, List.cons_append, List.nil_append, List.length_cons]
    rw [show o + k + 1 + l.length = o + k + (l.length + 1) by omega]
theorem fill_row (s : Nat) : ∀ (L : List (Nat × Value)) (j : Nat) (a : Array Value), L.map (·.1) = List.range' j L.length → (∀ p ∈ L, p.2.cells.size = s) → (j + L.length) * s ≤ a.size →
    ∃ c, Instr.fill (fun i => some (i * s, s)) a L = some c ∧ c.toList = a.toList.take (j * s) ++ L.flatMap (fun p => p.2.cells.toList) ++ a.toList.drop ((j + L.length) * s)
  | [], j, a, _, _, _ => ⟨a, rfl, by simp⟩
  | (i, v) :: L, j, a, h, hs, ha => by
    have hi : i = j ∧ L.map (·.1) = List.range' (j + 1) L.length := by
      simp only [List.map_cons, List.length_cons, List.range'_succ, List.cons.injEq] at h
      exact h
    obtain ⟨rfl, hr⟩ := hi
    have hv : v.cells.size = s := hs (i, v) (by simp)
    simp only [List.length_cons] at ha
    have hmul : (i + (L.length + 1)) * s = i * s + s + L.length * s := by simp only [Nat.add_mul]; omega
    have hle : i * s + s ≤ a.size := by omega
    have hf := fold_put v.cells.toList 0 (i * s) a (by simp [hv]; omega)
    obtain ⟨b, hb⟩ : ∃ b, b = v.cells.zipIdx.foldl (fun cs (x : Value × Nat) => cs.setIfInBounds (i * s + x.2) x.1) a := ⟨_, rfl⟩
    have hb' : b.toList = a.toList.take (i * s) ++ v.cells.toList ++ a.toList.drop (i * s + s) := by
      rw [hb, ← Array.foldl_toList, Array.toList_zipIdx, hf]
      simp [hv]
    have hbs : b.size = a.size := by
      rw [← Array.length_toList, hb']; simp [hv]; omega
    obtain ⟨c, hc, hcl⟩ := fill_row s L (i + 1) b hr (fun p hp => hs p (by simp [hp])) (by
      have e2 : (i + 1 + L.length) * s = i * s + s + L.length * s := by simp only [Nat.add_mul]; omega
      omega)
    refine ⟨c, ?_, ?_⟩
    · have h1 : (v.cells.size ≠ s || decide (i * s + v.cells.size > a.size)) = false := by simp [hv]; omega
      simp only [Instr.fill, h1, Bool.false_eq_true, if_false]
      rw [← hb]
      exact hc
    · have e1 : (i + 1) * s = i * s + s := by simp [Nat.add_mul]
      have e2 : (i + 1 + L.length) * s = i * s + s + L.length * s := by simp only [Nat.add_mul]; omega
      have hl : (a.toList.take (i * s) ++ v.cells.toList).length = i * s + s := by simp [hv]; omega
      rw [hcl, e1, e2, hb', List.take_left' hl, List.length_cons, hmul]
      have : i * s + s + L.length * s = (a.toList.take (i * s) ++ v.cells.toList).length + L.length * s := by omega
      conv => lhs; rw [this]
      rw [List.drop_append]
      simp only [List.flatMap_cons, List.append_assoc]
      rw [List.drop_eq_nil_of_le (by omega), List.nil_append, List.drop_drop]
      congr 4
      omega
theorem SlT.buildN (T : SlT P t e size bytes) (n : Nat) (ps : Array (Nat × Value)) (h : ps.toList.map (·.1) = List.range n) (hs : ∀ p ∈ ps.toList, p.2.cells.size = size) (hn : n * size ≤ 16777216) (h0 : 0 < n) (k : Value → World → Prop) :
    K_buildSlice P t n ps w k = k (.slice (some ⟨w.heap.size, 0, none⟩) n n) (w.alloc (.cells (ps.toList.flatMap (fun p => p.2.cells.toList)).toArray e)) := by
  obtain ⟨i, z, hi, hz, hsz, hb, hzs⟩ := T.info
  have hlen : ps.toList.length = n := by rw [← List.length_map (f := (·.1)), h, List.length_range]
  have hpos := T.pos
  have hp : ¬ n * size = 0 := by
    have := Nat.mul_pos h0 hpos
    omega
  have h24 : ¬ (16777216 < n * size) := by omega
  have hinfo : ∀ w, (typeInfo e).run P w = .ok i w := fun w => by simp [typeInfo, hi]
  have hzero : ∀ w, (zeroValue e).run P w = .ok z w := fun w => by simp [zeroValue, hinfo, hz]
  have hsize : ∀ w, (Go.sizeOf e).run P w = .ok size w := fun w => by simp [Go.sizeOf, hinfo, hsz]
  obtain ⟨c, hc, hcl⟩ := fill_row size ps.toList 0 ((Array.range (n * size)).map (z.cells[· % z.cells.size]!)) (by rw [h, hlen, List.range_eq_range']) hs (by simp [hlen])
  have hce : c = (ps.toList.flatMap (fun p => p.2.cells.toList)).toArray := by
    apply Array.toList_inj.1
    rw [hcl]
    simp [hlen, List.drop_eq_nil_of_le]
  subst hce
  refine K_buildSlice_ok _ _ _ _ ?_
  simp [Instr.buildSlice, run_underlying T.ht, hsize, hp, h24, hzero, hc, newRow]
/-- a world by a name of its own -/
theorem gen_call {f : FuncId} {args : Array Value} {k : Value → World → Prop} {W : World} (h : ∀ W2, W2 = W → CallP P f args W2 k) : CallP P f args W k := h W rfl
theorem gen_den {n : Nat} {c : Code} {K : Exit → Env → World → Prop} {ρ : Env} {W : World} (h : ∀ W2, W2 = W → den P n c K ρ W2) : den P n c K ρ W := h W rfl
theorem gen_draw {n id : Nat} {ops : Array Oper} {K : Env → World → Prop} {ρ : Env} {W : World} (h : ∀ W2, W2 = W → DrawE P n id ops K ρ W2) : DrawE P n id ops K ρ W := h W rfl
theorem gen_load {t : TypeId} {x : Value} {k : Value → World → Prop} {W : World} (h : ∀ W2, W2 = W → K_load P t x W2 k) : K_load P t x W k := h W rfl
theorem gen_store {t : TypeId} {x v : Value} {k : World → Prop} {W : World} (h : ∀ W2, W2 = W → K_store P t x v W2 k) : K_store P t x v W k := h W rfl
/-! ### results that lie in a cell -/
theorem run_loadVar_agg {n b o : Nat} {cs : List Value} (ha : (isAgg t).run P w = .ok true w) (hs : (Go.sizeOf t).run P w = .ok n w) (hb : cutIn (w.heap[b]?) o n = some cs) : (loadVar t ⟨b, o, none⟩).run P w = .ok (.agg cs.toArray) w := by
  obtain ⟨c, te, f, hb2, hle, rfl⟩ := cutIn_spec hb
  simp only [Sem.run_bind, loadVar, ha, Result.andThen_ok, if_true, hs, loadCells]
  rw [run_loadCells b o hb2 n 0 #[] (by omega)]
  simp
def K_cell (P : Program) (t : TypeId) (x : Value) (w : World) (k : Value → Prop) : Prop := ∃ v, (do loadVar t (← asAddr x) : Sem Value).run P w = .ok v w ∧ k v
theorem K_cell_agg {n b o : Nat} {cs : List Value} (k : Value → Prop) (ha : (isAgg t).run P w = .ok true w) (hs : (Go.sizeOf t).run P w = .ok n w) (hb : cutIn (w.heap[b]?) o n = some cs) : K_cell P t (.pointer (some ⟨b, o, none⟩)) w k = k (.agg cs.toArray) := by
  have h := run_loadVar_agg ha hs hb
  have h2 : (asAddr (.pointer (some ⟨b, o, none⟩))).run P w = .ok ⟨b, o, none⟩ w := rfl
  unfold K_cell
  simp [h, h2]
theorem RetR_c1 (a : Tmp) (ρ : Env) (k : Value → World → Prop) : RetR P #[.cell a t] ρ w k = K_cell P t (ρ a) w (fun v => k v w) := by
  unfold RetR K_cell
  simp [Result.andThen]
theorem RetR_c2 (a u : Tmp) (ρ : Env) (k : Value → World → Prop) : RetR P #[.cell a t, .tmp u] ρ w k = K_cell P t (ρ a) w (fun v => k (.tuple #[v, ρ u]) w) := by
  unfold RetR K_cell
  simp [Result.andThen]
  cases h1 : (asAddr (ρ a)).run P w with
  | halt x w1 => simp
  | ok q w1 =>
    simp only
    cases h2 : (loadVar t q).run P w1 with
    | halt x w2 => simp
    | ok v w2 =>
      simp
      constructor
      · rintro ⟨_, ⟨rfl, hw⟩, hk⟩; exact ⟨v, ⟨rfl, hw⟩, hk⟩
      · rintro ⟨_, ⟨rfl, hw⟩, hk⟩; exact ⟨_, ⟨rfl, hw⟩, hk⟩
/-! ### a whole block, stored -/
def wholeAt : Option Obj → Array Value → Option Obj
  | some (.cells c te (0, 0)), cs => if c.size = cs.size then some (.cells cs te (0, 0)) else none
  | _, _ => none
theorem wholeAt_some (c : Array Value) (te : TypeId) (cs : Array Value) : wholeAt (some (.cells c te (0, 0))) cs = if c.size = cs.size then some (.cells cs te (0, 0)) else none := (rfl)
theorem wholeAt_spec {x : Option Obj} {cs : Array Value} {y : Obj} (h : wholeAt x cs = some y) : ∃ c te, x = some (.cells c te (0, 0)) ∧ c.size = cs.size ∧ y = .cells cs te (0, 0) := by
  unfold wholeAt at h
  split at h
  · split at h
    · rename_i hc; cases h; exact ⟨_, _, rfl, hc, rfl⟩
    · cases h
  · cases h
/-- cells that are one cell each -/
def oneAll (cs : Array Value) : Bool := cs.toList.all fun v => v.oneCell'
theorem oneAll_mk (l : List Value) : oneAll l.toArray = l.all fun v => v.oneCell' := (rfl)
theorem K_store_whole (t : TypeId) (b : Nat) (cs : Array Value) (k : World → Prop) {y : Obj} (hy : wholeAt (w.heap[b]?) cs = some y) (hs : (Go.sizeOf t).run P w = .ok cs.size w) (h1 : oneAll cs = true) :
    K_store P t (.pointer (some ⟨b, 0, none⟩)) (.agg cs) w k = k (w.setB b y) := by
  obtain ⟨c, te, hb, hc, rfl⟩ := wholeAt_spec hy
  refine K_store_agg t b 0 cs k ?_ hs h1
  rw [hb, putsAt_some, if_pos (by omega)]
  congr 2
  apply Array.toList_inj.1
  simp [hc]
theorem K_store_part (t : TypeId) (b o : Nat) (cs : Array Value) (k : World → Prop) {y : Obj} (hy : putsAt (w.heap[b]?) o cs = some y) (hs : (Go.sizeOf t).run P w = .ok cs.size w) (h1 : oneAll cs = true) :
    K_store P t (.pointer (some ⟨b, o, none⟩)) (.agg cs) w k = k (w.setB b y) := K_store_agg t b o cs k hy hs h1
theorem get_of {o : Obj} {b : Nat} (h : w.heap[b]? = some o) (hp : b < w.heap.size) : w.heap[b] = o := (Array.getElem?_eq_some_iff.1 h).2
/-! ### arrays of bytes, compared -/
theorem part_u8 (he : (isAgg e).run P w = .ok false w) (l : List UInt8) (j : Nat) (hj : j < l.length) : (part e (l.map u8V).toArray j).run P w = .ok (u8V l[j]) w := by
  simp [part, he, hj]
theorem eql_u8V (he : P.underlying e = some (.int .u8)) (d : Nat) (x y : UInt8) : (Op.equalIn (d + 1) e (u8V x) (u8V y)).run P w = .ok (x == y) w := by
  unfold u8V
  rw [run_equalIn_int w d e .u8 .u8 _ _ he]
  congr 1
  rw [Bool.eq_iff_iff]
  simp only [beq_iff_eq]
  rw [← UInt8.toNat_inj]
  omega
theorem eqItems_u8 (he : P.underlying e = some (.int .u8)) (ha : ∀ w, (isAgg e).run P w = .ok false w) (d : Nat) (a b : List UInt8) (hl : a.length = b.length) : ∀ (m j : Nat), j + m = a.length →
    (Op.eqItems (d + 1) e 1 (a.map u8V).toArray (b.map u8V).toArray (List.range' j m)).run P w = .ok (a.drop j == b.drop j) w
  | 0, j, h => by
    rw [List.drop_of_length_le (by omega), List.drop_of_length_le (by omega)]
    simp [Op.eqItems]
  | m + 1, j, h => by
    have ih := eqItems_u8 he ha d a b hl m (j + 1) (by omega)
    have h1 : j < a.length := by omega
    have h2 : j < b.length := by omega
    rw [List.range'_succ, List.drop_eq_getElem_cons h1, List.drop_eq_getElem_cons h2]
    simp only [Op.eqItems, Nat.mul_one, Sem.run_bind, part_u8 (ha w) a j h1, part_u8 (ha w) b j h2, Result.andThen_ok, eql_u8V he]
    generalize a[j] = x
    generalize b[j] = y
    generalize a.drop (j + 1) = A at *
    generalize b.drop (j + 1) = B at *
    rw [show (x :: A == y :: B) = (x == y && A == B) from rfl]
    cases hxy : (x == y)
    · simp
    · simp only [Bool.not_true, Bool.false_eq_true, if_false, Bool.true_and]
      exact ih
theorem eql_bytes {n : Nat} {i : TypeInfo} (hu : P.underlying t = some (.array n e)) (hi : P.info? e = some i) (he : P.underlying e = some (.int .u8)) (ha : ∀ w, (isAgg e).run P w = .ok false w) (hc : P.cellsOf e = 1) (d : Nat) (a b : List UInt8) (h1 : a.length = n) (h2 : b.length = n) :
    (Op.equalIn (d + 2) t (.agg (a.map u8V).toArray) (.agg (b.map u8V).toArray)).run P w = .ok (a == b) w := by
  rw [run_equalIn_array w (d + 1) _ _ hu hi, hc, List.range_eq_range', eqItems_u8 he ha d a b (by omega) n 0 (by omega)]
  rfl
end
attribute [go_sem] RetR_c1 RetR_c2 K_cell_agg wholeAt_some oneAll_mk heap_alloc heap_setB
attribute [go_sem high] K_store_whole
attribute [go_sem] K_store_part
end Go.Eng
