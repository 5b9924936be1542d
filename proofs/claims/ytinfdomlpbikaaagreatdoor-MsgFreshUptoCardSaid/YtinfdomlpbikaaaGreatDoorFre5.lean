/-
  Lists compared: numbers, bytes, locks, entries.
  What is asked, and what is said, compared by the document.
  What is asked, and what is said, compared by the program: every field, and how long the lists are.
  What is got of bytes: no error is 0, lists are short, and where a body ends. No program in sight.
  Put, of a message of nothing but a head.
  Get, of a message of nothing but a head.
  Messages of nothing but a head, compared, and got.
  The example that must be: an Echo, put and got; and what a Reply's head to it is.
  MsgAnswers answers true, and writes no memory that was there, of whatever head.
  A region that draws its order, by a tree: where two operations may come next, both roads are walked.
-/
import Derived.Test.YtinfdomlpbikaaaGreatDoorFre4
import Derived.Test.YtinfdomlpbikaaaGreatDoorFre1
namespace Go.Proofs.YtinfdomlpbikaaaGreatDoor
open Go.Eng Go.Lib
set_option linter.unusedSimpArgs false
set_option linter.unusedVariables false
set_option maxRecDepth 100000
variable {w w0 : World}
@[go_sem] theorem str_inj (x y : ByteArray) : (x.toList = y.toList) = (x = y) := by
  rw [ByteArray.toList_eq, ByteArray.toList_eq]
  exact propext ⟨fun h => ByteArray.ext (Array.toList_inj.mp h), fun h => by rw [h]⟩
def eqL (x y : LockV) : Bool := decide (x.open_ = y.open_ ∧ x.at_ = y.at_ ∧ x.n = y.n ∧ x.mode = y.mode)
def eqE (x y : EntV) : Bool := decide (x.name = y.name ∧ x.kind = y.kind ∧ x.size = y.size)
theorem eqL_iff (x y : LockV) : eqL x y = true ↔ x = y := by cases x; cases y; simp [eqL]
theorem eqE_iff (x y : EntV) : eqE x y = true ↔ x = y := by cases x; cases y; simp [eqE]
@[go_sem high] theorem eql_lock (x y : LockV) (w : World) : (binOp .eql 110 (.agg x.row.toArray) (.agg y.row.toArray)).run Tryz.prog w = .ok (.bool (eqL x y)) w := by
  rw [run_eql_struct]
  simp [LockV.row, go_sem, eqL]
  by_cases h1 : x.open_ = y.open_ <;> by_cases h2 : x.at_ = y.at_ <;> by_cases h3 : x.n = y.n <;> by_cases h4 : x.mode = y.mode <;> simp [h1, h2, h3, h4]
@[go_sem high] theorem neq_lock (x y : LockV) (w : World) : (binOp .neq 110 (.agg x.row.toArray) (.agg y.row.toArray)).run Tryz.prog w = .ok (.bool (!eqL x y)) w := by
  have h := eql_lock x y w
  rw [run_eql_struct] at h
  rw [run_neq_struct]
  simp [LockV.row, go_sem, eqL]
  by_cases h1 : x.open_ = y.open_ <;> by_cases h2 : x.at_ = y.at_ <;> by_cases h3 : x.n = y.n <;> by_cases h4 : x.mode = y.mode <;> simp [h1, h2, h3, h4]
@[go_sem high] theorem neq_ent (x y : EntV) (w : World) : (binOp .neq 114 (.agg x.row.toArray) (.agg y.row.toArray)).run Tryz.prog w = .ok (.bool (!eqE x y)) w := by
  rw [run_neq_struct]
  simp [EntV.row, go_sem, eqE]
  by_cases h1 : x.name = y.name <;> by_cases h2 : x.kind = y.kind <;> by_cases h3 : x.size = y.size <;> simp [h1, h2, h3]
theorem take_eq {α : Type} {L M : List α} {k : Nat} (h : L.take k = M.take k) (hk : k < L.length) (hm : k < M.length) (e : L[k] = M[k]) : L.take (k + 1) = M.take (k + 1) := by
  rw [List.take_succ_eq_append_getElem hk, List.take_succ_eq_append_getElem hm, h, e]
def CmpI {α : Type} (w : World) (va vb : Value) (L M : List α) (m : Nat) (ρ : Env) (w' : World) : Prop :=
  ∃ k : Nat, m = L.length - k ∧ k ≤ L.length ∧ L.take k = M.take k ∧ ρ 0 = va ∧ ρ 1 = vb ∧ ρ 5 = .int .i64 k ∧ Upd noB w w'
def CmpR {α : Type} (w : World) (L M : List α) (r : Value) (w' : World) : Prop := ∃ x, r = .bool x ∧ (x = true ↔ L = M) ∧ Upd noB w w'
theorem words_any {va vb : Value} {L M : List Int} (ra : RowAt w 1 va L.length (L.map u16V)) (rb : RowAt w 1 vb M.length (M.map u16V)) (hb : L.length ≤ 9223372036854775806) : CallP Tryz.prog 59 #[va, vb] w (CmpR w L M) := by
  obtain ⟨pa, ca, rfl⟩ := ra.len
  obtain ⟨pb, cb, rfl⟩ := rb.len
  refine call_den (args := [_, _]) Tryz.func59 rfl rfl (by simp [Tryz.ntmps59]) ?_
  by_cases hlen : ¬ L.length = M.length
  · have hlen' : ¬ (L.length : Int) = M.length := by omega
    simp [go_sem, hlen, hlen']
    exact ⟨false, rfl, by simp; intro e; exact hlen (by rw [e]), Upd.refl _ _⟩
  replace hlen : L.length = M.length := Decidable.not_not.1 hlen
  simp [go_sem, hlen]
  refine den_loop (CmpI w (.slice pa L.length ca) (.slice pb M.length cb) L M) L.length ?_ ?_
  · exact ⟨0, rfl, Nat.zero_le _, rfl, by simp [go_sem, hlen], by simp [go_sem], by simp [go_sem], Upd.refl _ _⟩
  rintro m ρ w' ⟨k, rfl, hk, htk, h0, h1, h5, hu⟩
  by_cases hlt : k < L.length
  · have hlt2 : k < M.length := by omega
    have hud : Upd noB w w'.drew := hu.drew
    obtain ⟨x, hx⟩ : ∃ x, x = L[k] := ⟨_, rfl⟩
    obtain ⟨y, hy⟩ : ∃ y, y = M[k] := ⟨_, rfl⟩
    obtain ⟨qa, ia, la, ka⟩ := (ra.keep hud (by simp [noB])).at1 (P := Tryz.prog) (t := 29) (e := 22) Tryz.underlying29 Tryz.sizeOf22 Tryz.isAgg22 k hlt (u16V x) (by rw [List.getElem?_map, List.getElem?_eq_getElem hlt, ← hx]; rfl)
    obtain ⟨qb, ib, lb, kb⟩ := (rb.keep hud (by simp [noB])).at1 (P := Tryz.prog) (t := 29) (e := 22) Tryz.underlying29 Tryz.sizeOf22 Tryz.isAgg22 k hlt2 (u16V y) (by rw [List.getElem?_map, List.getElem?_eq_getElem hlt2, ← hy]; rfl)
    rw [← hlen] at rb
    simp only [u16V] at la lb
    have hwr : IntKind.i64.wrap ((k : Int) + 1) = ((k + 1 : Nat) : Int) := wrap64_id (by omega) (by omega)
    simp [go_sem, h0, h1, h5, hlt]
    refine draw_script [.pure 0, .pure 1, .pure 4, .pure 5, .still [2, 3, 6, 7], .one 8] (by kernel_rfl) (by kernel_rfl) (by kernel_rfl) ?_
    by_cases hxy : x = y
    · skip
      simp [go_sem, h0, h1, h5, hlt, ia, ib, Q_load_fix (W := fun _ : Unit => w'.drew) (fun _ => la), Q_load_fix (W := fun _ : Unit => w'.drew) (fun _ => lb), hxy, hwr]
      exact ⟨L.length - (k + 1), by omega, k + 1, rfl, by omega, take_eq htk hlt hlt2 (by rw [← hx, ← hy, hxy]), by simp [go_sem, h0], by simp [go_sem, h1], by simp [go_sem, hwr], hud⟩
    · skip
      simp [go_sem, h0, h1, h5, hlt, ia, ib, Q_load_fix (W := fun _ : Unit => w'.drew) (fun _ => la), Q_load_fix (W := fun _ : Unit => w'.drew) (fun _ => lb), hxy, hwr]
      refine ⟨false, rfl, ?_, hud⟩
      simp
      intro e
      subst e
      exact hxy (by rw [hx, hy])
  · have hk' : k = L.length := by omega
    subst hk'
    simp [go_sem, h0, h1, h5]
    refine ⟨true, rfl, ?_, hu⟩
    simp
    rw [List.take_of_length_le (Nat.le_refl _), List.take_of_length_le (by omega)] at htk
    exact htk
theorem sameB_any {va vb : Value} {L M : List UInt8} (ra : RowAt w 1 va L.length (L.map u8V)) (rb : RowAt w 1 vb M.length (M.map u8V)) (hb : L.length ≤ 9223372036854775806) : CallP Tryz.prog 14 #[va, vb] w (CmpR w L M) := by
  obtain ⟨pa, ca, rfl⟩ := ra.len
  obtain ⟨pb, cb, rfl⟩ := rb.len
  refine call_den (args := [_, _]) Tryz.func14 rfl rfl (by simp [Tryz.ntmps14]) ?_
  by_cases hlen : ¬ L.length = M.length
  · have hlen' : ¬ (L.length : Int) = M.length := by omega
    simp [go_sem, hlen, hlen']
    exact ⟨false, rfl, by simp; intro e; exact hlen (by rw [e]), Upd.refl _ _⟩
  replace hlen : L.length = M.length := Decidable.not_not.1 hlen
  simp [go_sem, hlen]
  refine den_loop (CmpI w (.slice pa L.length ca) (.slice pb M.length cb) L M) L.length ?_ ?_
  · exact ⟨0, rfl, Nat.zero_le _, rfl, by simp [go_sem, hlen], by simp [go_sem], by simp [go_sem], Upd.refl _ _⟩
  rintro m ρ w' ⟨k, rfl, hk, htk, h0, h1, h5, hu⟩
  by_cases hlt : k < L.length
  · have hlt2 : k < M.length := by omega
    have hud : Upd noB w w'.drew := hu.drew
    obtain ⟨x, hx⟩ : ∃ x, x = L[k] := ⟨_, rfl⟩
    obtain ⟨y, hy⟩ : ∃ y, y = M[k] := ⟨_, rfl⟩
    obtain ⟨qa, ia, la, ka⟩ := (ra.keep hud (by simp [noB])).at1 (P := Tryz.prog) (t := 31) (e := 5) Tryz.underlying31 Tryz.sizeOf5 Tryz.isAgg5 k hlt (u8V x) (by rw [List.getElem?_map, List.getElem?_eq_getElem hlt, ← hx]; rfl)
    obtain ⟨qb, ib, lb, kb⟩ := (rb.keep hud (by simp [noB])).at1 (P := Tryz.prog) (t := 31) (e := 5) Tryz.underlying31 Tryz.sizeOf5 Tryz.isAgg5 k hlt2 (u8V y) (by rw [List.getElem?_map, List.getElem?_eq_getElem hlt2, ← hy]; rfl)
    rw [← hlen] at rb
    simp only [u8V] at la lb
    have hwr : IntKind.i64.wrap ((k : Int) + 1) = ((k + 1 : Nat) : Int) := wrap64_id (by omega) (by omega)
    simp [go_sem, h0, h1, h5, hlt]
    refine draw_script [.pure 0, .pure 1, .pure 4, .pure 5, .still [2, 3, 6, 7], .one 8] (by kernel_rfl) (by kernel_rfl) (by kernel_rfl) ?_
    by_cases hxy : x = y
    · skip
      simp [go_sem, h0, h1, h5, hlt, ia, ib, Q_load_fix (W := fun _ : Unit => w'.drew) (fun _ => la), Q_load_fix (W := fun _ : Unit => w'.drew) (fun _ => lb), hxy, hwr]
      exact ⟨L.length - (k + 1), by omega, k + 1, rfl, by omega, take_eq htk hlt hlt2 (by rw [← hx, ← hy, hxy]), by simp [go_sem, h0], by simp [go_sem, h1], by simp [go_sem, hwr], hud⟩
    · have hxy' : ¬ (x.toNat : Int) = y.toNat := fun h => hxy (UInt8.toNat_inj.1 (by omega))
      simp [go_sem, h0, h1, h5, hlt, ia, ib, Q_load_fix (W := fun _ : Unit => w'.drew) (fun _ => la), Q_load_fix (W := fun _ : Unit => w'.drew) (fun _ => lb), hxy, hxy', hwr]
      refine ⟨false, rfl, ?_, hud⟩
      simp
      intro e
      subst e
      exact hxy (by rw [hx, hy])
  · have hk' : k = L.length := by omega
    subst hk'
    simp [go_sem, h0, h1, h5]
    refine ⟨true, rfl, ?_, hu⟩
    simp
    rw [List.take_of_length_le (Nat.le_refl _), List.take_of_length_le (by omega)] at htk
    exact htk
theorem locksB_any {va vb : Value} {L M : List LockV} (ra : RowAt w 4 va L.length (L.flatMap LockV.row)) (rb : RowAt w 4 vb M.length (M.flatMap LockV.row)) (hb : L.length ≤ 9223372036854775806) : CallP Tryz.prog 60 #[va, vb] w (CmpR w L M) := by
  obtain ⟨pa, ca, rfl⟩ := ra.len
  obtain ⟨pb, cb, rfl⟩ := rb.len
  refine call_den (args := [_, _]) Tryz.func60 rfl rfl (by simp [Tryz.ntmps60]) ?_
  by_cases hlen : ¬ L.length = M.length
  · have hlen' : ¬ (L.length : Int) = M.length := by omega
    simp [go_sem, hlen, hlen']
    exact ⟨false, rfl, by simp; intro e; exact hlen (by rw [e]), Upd.refl _ _⟩
  replace hlen : L.length = M.length := Decidable.not_not.1 hlen
  simp [go_sem, hlen]
  refine den_loop (CmpI w (.slice pa L.length ca) (.slice pb M.length cb) L M) L.length ?_ ?_
  · exact ⟨0, rfl, Nat.zero_le _, rfl, by simp [go_sem, hlen], by simp [go_sem], by simp [go_sem], Upd.refl _ _⟩
  rintro m ρ w' ⟨k, rfl, hk, htk, h0, h1, h5, hu⟩
  by_cases hlt : k < L.length
  · have hlt2 : k < M.length := by omega
    have hud : Upd noB w w'.drew := hu.drew
    obtain ⟨x, hx⟩ : ∃ x, x = L[k] := ⟨_, rfl⟩
    obtain ⟨y, hy⟩ : ∃ y, y = M[k] := ⟨_, rfl⟩
    obtain ⟨qa, ia, la, ka⟩ := (ra.keep hud (by simp [noB])).atN (P := Tryz.prog) (t := 32) (e := 110) Tryz.underlying32 Tryz.sizeOf110 Tryz.isAgg110 k hlt
    obtain ⟨qb, ib, lb, kb⟩ := (rb.keep hud (by simp [noB])).atN (P := Tryz.prog) (t := 32) (e := 110) Tryz.underlying32 Tryz.sizeOf110 Tryz.isAgg110 k hlt2
    rw [flat_at LockV.row 4 (fun _ => rfl) L k hlt, ← hx] at la
    rw [flat_at LockV.row 4 (fun _ => rfl) M k hlt2, ← hy] at lb
    have hwr : IntKind.i64.wrap ((k : Int) + 1) = ((k + 1 : Nat) : Int) := wrap64_id (by omega) (by omega)
    simp [go_sem, h0, h1, h5, hlt]
    refine draw_script [.pure 0, .pure 1, .pure 4, .pure 5, .still [2, 3, 6, 7], .one 8] (by kernel_rfl) (by kernel_rfl) (by kernel_rfl) ?_
    by_cases hxy : x = y
    · have hxyE : eqL y y = true := (eqL_iff y y).2 rfl
      simp [go_sem, h0, h1, h5, hlt, ia, ib, Q_load_fix (W := fun _ : Unit => w'.drew) (fun _ => la), Q_load_fix (W := fun _ : Unit => w'.drew) (fun _ => lb), hxy, hxyE]
      exact ⟨L.length - (k + 1), by omega, k + 1, rfl, by omega, take_eq htk hlt hlt2 (by rw [← hx, ← hy, hxy]), by simp [go_sem, h0], by simp [go_sem, h1], by simp [go_sem, hwr], hud⟩
    · have hxyE : eqL x y = false := by rw [Bool.eq_false_iff]; exact fun h => hxy ((eqL_iff x y).1 h)
      simp [go_sem, h0, h1, h5, hlt, ia, ib, Q_load_fix (W := fun _ : Unit => w'.drew) (fun _ => la), Q_load_fix (W := fun _ : Unit => w'.drew) (fun _ => lb), hxy, hxyE]
      refine ⟨false, rfl, ?_, hud⟩
      simp
      intro e
      subst e
      exact hxy (by rw [hx, hy])
  · have hk' : k = L.length := by omega
    subst hk'
    simp [go_sem, h0, h1, h5]
    refine ⟨true, rfl, ?_, hu⟩
    simp
    rw [List.take_of_length_le (Nat.le_refl _), List.take_of_length_le (by omega)] at htk
    exact htk
theorem entriesB_any {va vb : Value} {L M : List EntV} (ra : RowAt w 3 va L.length (L.flatMap EntV.row)) (rb : RowAt w 3 vb M.length (M.flatMap EntV.row)) (hb : L.length ≤ 9223372036854775806) : CallP Tryz.prog 61 #[va, vb] w (CmpR w L M) := by
  obtain ⟨pa, ca, rfl⟩ := ra.len
  obtain ⟨pb, cb, rfl⟩ := rb.len
  refine call_den (args := [_, _]) Tryz.func61 rfl rfl (by simp [Tryz.ntmps61]) ?_
  by_cases hlen : ¬ L.length = M.length
  · have hlen' : ¬ (L.length : Int) = M.length := by omega
    simp [go_sem, hlen, hlen']
    exact ⟨false, rfl, by simp; intro e; exact hlen (by rw [e]), Upd.refl _ _⟩
  replace hlen : L.length = M.length := Decidable.not_not.1 hlen
  simp [go_sem, hlen]
  refine den_loop (CmpI w (.slice pa L.length ca) (.slice pb M.length cb) L M) L.length ?_ ?_
  · exact ⟨0, rfl, Nat.zero_le _, rfl, by simp [go_sem, hlen], by simp [go_sem], by simp [go_sem], Upd.refl _ _⟩
  rintro m ρ w' ⟨k, rfl, hk, htk, h0, h1, h5, hu⟩
  by_cases hlt : k < L.length
  · have hlt2 : k < M.length := by omega
    have hud : Upd noB w w'.drew := hu.drew
    obtain ⟨x, hx⟩ : ∃ x, x = L[k] := ⟨_, rfl⟩
    obtain ⟨y, hy⟩ : ∃ y, y = M[k] := ⟨_, rfl⟩
    obtain ⟨qa, ia, la, ka⟩ := (ra.keep hud (by simp [noB])).atN (P := Tryz.prog) (t := 37) (e := 114) Tryz.underlying37 Tryz.sizeOf114 Tryz.isAgg114 k hlt
    obtain ⟨qb, ib, lb, kb⟩ := (rb.keep hud (by simp [noB])).atN (P := Tryz.prog) (t := 37) (e := 114) Tryz.underlying37 Tryz.sizeOf114 Tryz.isAgg114 k hlt2
    rw [flat_at EntV.row 3 (fun _ => rfl) L k hlt, ← hx] at la
    rw [flat_at EntV.row 3 (fun _ => rfl) M k hlt2, ← hy] at lb
    have hwr : IntKind.i64.wrap ((k : Int) + 1) = ((k + 1 : Nat) : Int) := wrap64_id (by omega) (by omega)
    simp [go_sem, h0, h1, h5, hlt]
    refine draw_script [.pure 0, .pure 1, .pure 4, .pure 5, .still [2, 3, 6, 7], .one 8] (by kernel_rfl) (by kernel_rfl) (by kernel_rfl) ?_
    by_cases hxy : x = y
    · have hxyE : eqE y y = true := (eqE_iff y y).2 rfl
      simp [go_sem, h0, h1, h5, hlt, ia, ib, Q_load_fix (W := fun _ : Unit => w'.drew) (fun _ => la), Q_load_fix (W := fun _ : Unit => w'.drew) (fun _ => lb), hxy, hxyE]
      exact ⟨L.length - (k + 1), by omega, k + 1, rfl, by omega, take_eq htk hlt hlt2 (by rw [← hx, ← hy, hxy]), by simp [go_sem, h0], by simp [go_sem, h1], by simp [go_sem, hwr], hud⟩
    · have hxyE : eqE x y = false := by rw [Bool.eq_false_iff]; exact fun h => hxy ((eqE_iff x y).1 h)
      simp [go_sem, h0, h1, h5, hlt, ia, ib, Q_load_fix (W := fun _ : Unit => w'.drew) (fun _ => la), Q_load_fix (W := fun _ : Unit => w'.drew) (fun _ => lb), hxy, hxyE]
      refine ⟨false, rfl, ?_, hud⟩
      simp
      intro e
      subst e
      exact hxy (by rw [hx, hy])
  · have hk' : k = L.length := by omega
    subst hk'
    simp [go_sem, h0, h1, h5]
    refine ⟨true, rfl, ?_, hu⟩
    simp
    rw [List.take_of_length_le (Nat.le_refl _), List.take_of_length_le (by omega)] at htk
    exact htk
end Go.Proofs.YtinfdomlpbikaaaGreatDoor
namespace Go.Eng
open Go
set_option linter.unusedVariables false
theorem NextK_mono {P : Program} {k k' : Value → World → Prop} (h : ∀ v w, k v w → k' v w) : ∀ r : Result Next, NextK P k r → NextK P k' r
  | .ok (.value v) w, hh => h _ _ hh
  | .ok .skip w, hh => h _ _ hh
  | .ok (.enter f args) w, hh => Calls.mono hh fun e w'' ⟨v, he, hk⟩ => ⟨v, he, h _ _ hk⟩
  | .ok (.row r args) w, hh => hh.mono fun v w'' hk => h _ _ hk
  | .halt x w, hh => hh.elim
theorem RunO_mono {P : Program} {op : Op} {ty : TypeId} {e : Operand → Value} {w : World} {k k' : Value → World → Prop} (h : ∀ v w, k v w → k' v w) (hh : RunO P op ty e w k) : RunO P op ty e w k' := NextK_mono h _ hh
theorem GuardO_mono {o : Option Tmp} {ρ : Env} {want : Bool} {t e t' e' : Prop} (h1 : t → t') (h2 : e → e') (h : GuardO o ρ want t e) : GuardO o ρ want t' e' := by
  unfold GuardO at h ⊢
  split at h
  · unfold GuardE at h ⊢
    split at h
    · split at h
      · rename_i hc; rw [if_pos hc]; exact h1 h
      · rename_i hc; rw [if_neg hc]; exact h2 h
    · exact h2 h
  · exact h2 h
theorem opsS_append {P : Program} {Q K : Env → World → Prop} {l2 : List SOp} (h2 : ∀ ρ w, Q ρ w → opsS P K l2 ρ w) : ∀ (l1 : List SOp) (ρ : Env) (w : World), opsS P Q l1 ρ w → opsS P K (l1 ++ l2) ρ w
  | [], ρ, w, h => h2 _ _ h
  | ⟨d, op, t, none⟩ :: r, ρ, w, h => RunO_mono (fun v w' hh => opsS_append h2 r _ _ hh) h
  | ⟨d, op, t, some (g, want)⟩ :: r, ρ, w, h => GuardO_mono (fun hh => RunO_mono (fun v w' hh => opsS_append h2 r _ _ hh) hh) (fun hh => opsS_append h2 r _ _ hh) h
/-- so many operations, and what they come to; then the rest -/
theorem opsS_cut {P : Program} {K : Env → World → Prop} {l : List SOp} {ρ : Env} {w : World} (n : Nat) (Q : Env → World → Prop) (h1 : opsS P Q (l.take n) ρ w) (h2 : ∀ ρ' w', Q ρ' w' → opsS P K (l.drop n) ρ' w') : opsS P K l ρ w := by
  have := opsS_append (K := K) h2 (l.take n) ρ w h1
  rwa [List.take_append_drop] at this
end Go.Eng
namespace Go.Proofs.YtinfdomlpbikaaaGreatDoor
open Go.Eng Go.Lib
set_option linter.unusedSimpArgs false
set_option linter.unusedVariables false
set_option maxRecDepth 100000
variable {w w0 : World}
/-! ### what is asked and said, as it can be read -/
structure AskAt (w : World) (a : AskV) (A : AskS) : Prop where
  f : A.f = a.bare
  dia : RowAt w 1 (.slice a.dialects.p a.dialects.n a.dialects.cap) A.dia.length (A.dia.map u16V)
  dat : BytesAt w (.slice a.data.p a.data.n a.data.cap) A.dat
  lok : RowAt w 4 (.slice a.locks.p a.locks.n a.locks.cap) A.lok.length (A.lok.flatMap LockV.row)
  dl : A.dia.length ≤ 1099511627776
  tl : A.dat.length ≤ 1099511627776
  ll : A.lok.length ≤ 1099511627776
structure SayAt (w : World) (a : SayV) (A : SayS) : Prop where
  f : A.f = a.bare
  dat : BytesAt w (.slice a.data.p a.data.n a.data.cap) A.dat
  ent : RowAt w 3 (.slice a.entries.p a.entries.n a.entries.cap) A.ent.length (A.ent.flatMap EntV.row)
  tl : A.dat.length ≤ 1099511627776
  el : A.ent.length ≤ 1099511627776
theorem AskAt.keep {w w' : World} {a : AskV} {A : AskS} (h : AskAt w a A) (u : Upd noB w w') : AskAt w' a A := ⟨h.f, h.dia.keep u (fun _ _ h => h), h.dat.keep0 u, h.lok.keep u (fun _ _ h => h), h.dl, h.tl, h.ll⟩
theorem SayAt.keep {w w' : World} {a : SayV} {A : SayS} (h : SayAt w a A) (u : Upd noB w w') : SayAt w' a A := ⟨h.f, h.dat.keep0 u, h.ent.keep u (fun _ _ h => h), h.tl, h.el⟩
def CmpX {α : Type} (w : World) (L M : α) (r : Value) (w' : World) : Prop := ∃ x, r = .bool x ∧ (x = true ↔ L = M) ∧ Upd noB w w'
def CQ (w : World) (ba bb : Nat) (a b : AskV) (q : Nat) (acc : Bool) (ρ : Env) (W : World) : Prop :=
  ρ 2 = .pointer (some ⟨ba, 0, none⟩) ∧ ρ 3 = .pointer (some ⟨bb, 0, none⟩) ∧ ρ q = .bool acc ∧ Upd noB w W ∧ W.heap[ba]? = some (.cells a.cells 34 (0, 0)) ∧ W.heap[bb]? = some (.cells b.cells 34 (0, 0))
def CZ (w : World) (ba bb : Nat) (a b : SayV) (q : Nat) (acc : Bool) (ρ : Env) (W : World) : Prop :=
  ρ 2 = .pointer (some ⟨ba, 0, none⟩) ∧ ρ 3 = .pointer (some ⟨bb, 0, none⟩) ∧ ρ q = .bool acc ∧ Upd noB w W ∧ W.heap[ba]? = some (.cells a.cells 39 (0, 0)) ∧ W.heap[bb]? = some (.cells b.cells 39 (0, 0))
def CQE (w : World) (ba bb : Nat) (a b : AskV) (q : Nat) (acc : Bool) (L : Prop) (ρ : Env) (W : World) : Prop := ∃ x, (acc = true → (x = true ↔ L)) ∧ CQ w ba bb a b q (acc && x) ρ W
def CZE (w : World) (ba bb : Nat) (a b : SayV) (q : Nat) (acc : Bool) (L : Prop) (ρ : Env) (W : World) : Prop := ∃ x, (acc = true → (x = true ↔ L)) ∧ CZ w ba bb a b q (acc && x) ρ W
set_option maxHeartbeats 4000000 in
theorem asks_any {a b : AskV} {A B : AskS} (ha : AskAt w a A) (hb : AskAt w b B) : CallP Tryz.prog 40 #[.agg a.cells, .agg b.cells] w (CmpX w A B) := by
  refine call_den (args := [_, _]) Tryz.func40 rfl rfl (by simp [Tryz.ntmps40]) ?_
  simp [go_sem]
  have u0 : Upd noB w ((w.alloc (.cells a.cells 34)).alloc (.cells b.cells 34)) := ((Upd.refl _ _).alloc _).alloc _
  have h0 : ((w.alloc (.cells a.cells 34)).alloc (.cells b.cells 34)).heap[w.heap.size]? = some (.cells a.cells 34 (0, 0)) := by rw [heap_alloc, if_neg (by simp), heap_alloc, if_pos rfl]
  have h1 : ((w.alloc (.cells a.cells 34)).alloc (.cells b.cells 34)).heap[w.heap.size + 1]? = some (.cells b.cells 34 (0, 0)) := by rw [heap_alloc, if_pos (by simp)]
  refine CallP.mono (words_any (ha.keep u0).dia (hb.keep u0).dia (by have := ha.dl; omega)) ?_
  rintro v W ⟨acc0, rfl, hx0, u1⟩
  have hu := u0.trans u1
  have hba := u1.get h0 (fun h => h)
  have hbb := u1.get h1 (fun h => h)
  clear u0 u1 h0 h1
  generalize w.heap.size + 1 = bb at *
  generalize w.heap.size = ba at *
  rw [contS_app]
  refine opsS_cut 1 (CQ w ba bb a b 10 acc0) ?_ ?_
  · simp [go_sem, CQ, hba, hbb, hu]
  clear hba hbb hu
  rintro ρ W ⟨g2, g3, gp, hu, hba, hbb⟩
  simp only [List.drop_succ_cons, List.drop_zero]
  refine opsS_cut 6 (CQ w ba bb a b 16 (acc0 && (a.guid.1 == b.guid.1))) ?_ ?_
  · cases acc0 <;> simp [go_sem, CQ, g2, g3, gp, hba, hbb, hu]
  clear g2 g3 gp hba hbb hu
  rintro ρ W ⟨g2, g3, gp, hu, hba, hbb⟩
  obtain ⟨acc1, hK1⟩ : ∃ x, x = (acc0 && (a.guid.1 == b.guid.1)) := ⟨_, rfl⟩
  rw [← hK1] at gp
  simp only [List.drop_succ_cons, List.drop_zero]
  refine opsS_cut 7 (CQ w ba bb a b 23 (acc1 && (a.proof.1 == b.proof.1))) ?_ ?_
  · cases acc1 <;> simp [go_sem, CQ, g2, g3, gp, hba, hbb, hu]
  clear g2 g3 gp hba hbb hu
  rintro ρ W ⟨g2, g3, gp, hu, hba, hbb⟩
  obtain ⟨acc2, hK2⟩ : ∃ x, x = (acc1 && (a.proof.1 == b.proof.1)) := ⟨_, rfl⟩
  rw [← hK2] at gp
  simp only [List.drop_succ_cons, List.drop_zero]
  refine opsS_cut 7 (CQ w ba bb a b 30 (acc2 && (a.user.toList == b.user.toList))) ?_ ?_
  · cases acc2 <;> simp [go_sem, CQ, g2, g3, gp, hba, hbb, hu]
  clear g2 g3 gp hba hbb hu
  rintro ρ W ⟨g2, g3, gp, hu, hba, hbb⟩
  obtain ⟨acc3, hK3⟩ : ∃ x, x = (acc2 && (a.user.toList == b.user.toList)) := ⟨_, rfl⟩
  rw [← hK3] at gp
  simp only [List.drop_succ_cons, List.drop_zero]
  refine opsS_cut 7 (CQ w ba bb a b 37 (acc3 && (a.share.toList == b.share.toList))) ?_ ?_
  · cases acc3 <;> simp [go_sem, CQ, g2, g3, gp, hba, hbb, hu]
  clear g2 g3 gp hba hbb hu
  rintro ρ W ⟨g2, g3, gp, hu, hba, hbb⟩
  obtain ⟨acc4, hK4⟩ : ∃ x, x = (acc3 && (a.share.toList == b.share.toList)) := ⟨_, rfl⟩
  rw [← hK4] at gp
  simp only [List.drop_succ_cons, List.drop_zero]
  refine opsS_cut 7 (CQ w ba bb a b 44 (acc4 && (a.access == b.access))) ?_ ?_
  · cases acc4 <;> simp [go_sem, CQ, g2, g3, gp, hba, hbb, hu]
  clear g2 g3 gp hba hbb hu
  rintro ρ W ⟨g2, g3, gp, hu, hba, hbb⟩
  obtain ⟨acc5, hK5⟩ : ∃ x, x = (acc4 && (a.access == b.access)) := ⟨_, rfl⟩
  rw [← hK5] at gp
  simp only [List.drop_succ_cons, List.drop_zero]
  refine opsS_cut 7 (CQ w ba bb a b 51 (acc5 && (a.sharing == b.sharing))) ?_ ?_
  · cases acc5 <;> simp [go_sem, CQ, g2, g3, gp, hba, hbb, hu]
  clear g2 g3 gp hba hbb hu
  rintro ρ W ⟨g2, g3, gp, hu, hba, hbb⟩
  obtain ⟨acc6, hK6⟩ : ∃ x, x = (acc5 && (a.sharing == b.sharing)) := ⟨_, rfl⟩
  rw [← hK6] at gp
  simp only [List.drop_succ_cons, List.drop_zero]
  refine opsS_cut 7 (CQ w ba bb a b 58 (acc6 && (a.way == b.way))) ?_ ?_
  · cases acc6 <;> simp [go_sem, CQ, g2, g3, gp, hba, hbb, hu]
  clear g2 g3 gp hba hbb hu
  rintro ρ W ⟨g2, g3, gp, hu, hba, hbb⟩
  obtain ⟨acc7, hK7⟩ : ∃ x, x = (acc6 && (a.way == b.way)) := ⟨_, rfl⟩
  rw [← hK7] at gp
  simp only [List.drop_succ_cons, List.drop_zero]
  refine opsS_cut 7 (CQ w ba bb a b 65 (acc7 && (a.options == b.options))) ?_ ?_
  · cases acc7 <;> simp [go_sem, CQ, g2, g3, gp, hba, hbb, hu]
  clear g2 g3 gp hba hbb hu
  rintro ρ W ⟨g2, g3, gp, hu, hba, hbb⟩
  obtain ⟨acc8, hK8⟩ : ∃ x, x = (acc7 && (a.options == b.options)) := ⟨_, rfl⟩
  rw [← hK8] at gp
  simp only [List.drop_succ_cons, List.drop_zero]
  refine opsS_cut 7 (CQ w ba bb a b 72 (acc8 && (a.level == b.level))) ?_ ?_
  · cases acc8 <;> simp [go_sem, CQ, g2, g3, gp, hba, hbb, hu]
  clear g2 g3 gp hba hbb hu
  rintro ρ W ⟨g2, g3, gp, hu, hba, hbb⟩
  obtain ⟨acc9, hK9⟩ : ∃ x, x = (acc8 && (a.level == b.level)) := ⟨_, rfl⟩
  rw [← hK9] at gp
  simp only [List.drop_succ_cons, List.drop_zero]
  refine opsS_cut 7 (CQ w ba bb a b 79 (acc9 && (a.durable == b.durable))) ?_ ?_
  · cases acc9 <;> simp [go_sem, CQ, g2, g3, gp, hba, hbb, hu]
  clear g2 g3 gp hba hbb hu
  rintro ρ W ⟨g2, g3, gp, hu, hba, hbb⟩
  obtain ⟨acc10, hK10⟩ : ∃ x, x = (acc9 && (a.durable == b.durable)) := ⟨_, rfl⟩
  rw [← hK10] at gp
  simp only [List.drop_succ_cons, List.drop_zero]
  refine opsS_cut 7 (CQ w ba bb a b 86 (acc10 && (a.file == b.file))) ?_ ?_
  · cases acc10 <;> simp [go_sem, CQ, g2, g3, gp, hba, hbb, hu]
  clear g2 g3 gp hba hbb hu
  rintro ρ W ⟨g2, g3, gp, hu, hba, hbb⟩
  obtain ⟨acc11, hK11⟩ : ∃ x, x = (acc10 && (a.file == b.file)) := ⟨_, rfl⟩
  rw [← hK11] at gp
  simp only [List.drop_succ_cons, List.drop_zero]
  refine opsS_cut 7 (CQ w ba bb a b 93 (acc11 && (a.name.toList == b.name.toList))) ?_ ?_
  · cases acc11 <;> simp [go_sem, CQ, g2, g3, gp, hba, hbb, hu]
  clear g2 g3 gp hba hbb hu
  rintro ρ W ⟨g2, g3, gp, hu, hba, hbb⟩
  obtain ⟨acc12, hK12⟩ : ∃ x, x = (acc11 && (a.name.toList == b.name.toList)) := ⟨_, rfl⟩
  rw [← hK12] at gp
  simp only [List.drop_succ_cons, List.drop_zero]
  refine opsS_cut 7 (CQ w ba bb a b 100 (acc12 && (a.at_ == b.at_))) ?_ ?_
  · cases acc12 <;> simp [go_sem, CQ, g2, g3, gp, hba, hbb, hu]
  clear g2 g3 gp hba hbb hu
  rintro ρ W ⟨g2, g3, gp, hu, hba, hbb⟩
  obtain ⟨acc13, hK13⟩ : ∃ x, x = (acc12 && (a.at_ == b.at_)) := ⟨_, rfl⟩
  rw [← hK13] at gp
  simp only [List.drop_succ_cons, List.drop_zero]
  refine opsS_cut 7 (CQ w ba bb a b 107 (acc13 && (a.n == b.n))) ?_ ?_
  · cases acc13 <;> simp [go_sem, CQ, g2, g3, gp, hba, hbb, hu]
  clear g2 g3 gp hba hbb hu
  rintro ρ W ⟨g2, g3, gp, hu, hba, hbb⟩
  obtain ⟨acc14, hK14⟩ : ∃ x, x = (acc13 && (a.n == b.n)) := ⟨_, rfl⟩
  rw [← hK14] at gp
  simp only [List.drop_succ_cons, List.drop_zero]
  refine opsS_cut 7 (CQE w ba bb a b 114 acc14 (A.dat = B.dat)) ?_ ?_
  · cases acc14
    · simp [go_sem, g2, g3, gp, hba, hbb]
      exact ⟨false, by simp, by simp [go_sem, CQ, g2, g3, gp, hba, hbb, hu]⟩
    · simp [go_sem, g2, g3, gp, hba, hbb]
      refine CallP.mono (sameB_any ((ha.keep hu).dat.1) ((hb.keep hu).dat.1) (by have := ha.tl; omega)) ?_
      rintro v W ⟨x, rfl, hx, ux⟩
      simp [go_sem]
      refine ⟨x, fun _ => hx, ?_⟩
      simp [go_sem, CQ, g2, g3, ux.get hba (fun h => h), ux.get hbb (fun h => h), hu.trans ux]
  clear g2 g3 gp hba hbb hu
  rintro ρ W ⟨x15, hx15, g2, g3, gp, hu, hba, hbb⟩
  obtain ⟨acc15, hK15⟩ : ∃ x, x = (acc14 && x15) := ⟨_, rfl⟩
  rw [← hK15] at gp
  simp only [List.drop_succ_cons, List.drop_zero]
  refine opsS_cut 7 (CQE w ba bb a b 121 acc15 (A.lok = B.lok)) ?_ ?_
  · cases acc15
    · simp [go_sem, g2, g3, gp, hba, hbb]
      exact ⟨false, by simp, by simp [go_sem, CQ, g2, g3, gp, hba, hbb, hu]⟩
    · simp [go_sem, g2, g3, gp, hba, hbb]
      refine CallP.mono (locksB_any ((ha.keep hu).lok) ((hb.keep hu).lok) (by have := ha.ll; omega)) ?_
      rintro v W ⟨x, rfl, hx, ux⟩
      simp [go_sem]
      refine ⟨x, fun _ => hx, ?_⟩
      simp [go_sem, CQ, g2, g3, ux.get hba (fun h => h), ux.get hbb (fun h => h), hu.trans ux]
  clear g2 g3 gp hba hbb hu
  rintro ρ W ⟨x16, hx16, g2, g3, gp, hu, hba, hbb⟩
  obtain ⟨acc16, hK16⟩ : ∃ x, x = (acc15 && x16) := ⟨_, rfl⟩
  rw [← hK16] at gp
  simp only [List.drop_succ_cons, List.drop_zero]
  refine opsS_cut 7 (CQ w ba bb a b 128 (acc16 && (a.most == b.most))) ?_ ?_
  · cases acc16 <;> simp [go_sem, CQ, g2, g3, gp, hba, hbb, hu]
  clear g2 g3 gp hba hbb hu
  rintro ρ W ⟨g2, g3, gp, hu, hba, hbb⟩
  obtain ⟨acc17, hK17⟩ : ∃ x, x = (acc16 && (a.most == b.most)) := ⟨_, rfl⟩
  rw [← hK17] at gp
  simp only [List.drop_succ_cons, List.drop_zero]
  refine opsS_cut 7 (CQ w ba bb a b 135 (acc17 && (a.pattern.toList == b.pattern.toList))) ?_ ?_
  · cases acc17 <;> simp [go_sem, CQ, g2, g3, gp, hba, hbb, hu]
  clear g2 g3 gp hba hbb hu
  rintro ρ W ⟨g2, g3, gp, hu, hba, hbb⟩
  obtain ⟨acc18, hK18⟩ : ∃ x, x = (acc17 && (a.pattern.toList == b.pattern.toList)) := ⟨_, rfl⟩
  rw [← hK18] at gp
  simp only [List.drop_succ_cons, List.drop_zero]
  refine opsS_cut 7 (CQ w ba bb a b 142 (acc18 && (a.after.toList == b.after.toList))) ?_ ?_
  · cases acc18 <;> simp [go_sem, CQ, g2, g3, gp, hba, hbb, hu]
  clear g2 g3 gp hba hbb hu
  rintro ρ W ⟨g2, g3, gp, hu, hba, hbb⟩
  obtain ⟨acc19, hK19⟩ : ∃ x, x = (acc18 && (a.after.toList == b.after.toList)) := ⟨_, rfl⟩
  rw [← hK19] at gp
  simp only [List.drop_succ_cons, List.drop_zero]
  refine opsS_cut 7 (CQ w ba bb a b 149 (acc19 && (a.cls == b.cls))) ?_ ?_
  · cases acc19 <;> simp [go_sem, CQ, g2, g3, gp, hba, hbb, hu]
  clear g2 g3 gp hba hbb hu
  rintro ρ W ⟨g2, g3, gp, hu, hba, hbb⟩
  obtain ⟨acc20, hK20⟩ : ∃ x, x = (acc19 && (a.cls == b.cls)) := ⟨_, rfl⟩
  rw [← hK20] at gp
  simp only [List.drop_succ_cons, List.drop_zero]
  refine opsS_cut 7 (CQ w ba bb a b 156 (acc20 && (a.size_ == b.size_))) ?_ ?_
  · cases acc20 <;> simp [go_sem, CQ, g2, g3, gp, hba, hbb, hu]
  clear g2 g3 gp hba hbb hu
  rintro ρ W ⟨g2, g3, gp, hu, hba, hbb⟩
  obtain ⟨acc21, hK21⟩ : ∃ x, x = (acc20 && (a.size_ == b.size_)) := ⟨_, rfl⟩
  rw [← hK21] at gp
  simp only [List.drop_succ_cons, List.drop_zero]
  refine opsS_cut 7 (CQ w ba bb a b 163 (acc21 && (a.on == b.on))) ?_ ?_
  · cases acc21 <;> simp [go_sem, CQ, g2, g3, gp, hba, hbb, hu]
  clear g2 g3 gp hba hbb hu
  rintro ρ W ⟨g2, g3, gp, hu, hba, hbb⟩
  obtain ⟨acc22, hK22⟩ : ∃ x, x = (acc21 && (a.on == b.on)) := ⟨_, rfl⟩
  rw [← hK22] at gp
  simp only [List.drop_succ_cons, List.drop_zero]
  simp [go_sem, gp]
  refine ⟨acc22, rfl, ?_, hu⟩
  constructor
  · intro h
    rw [hK22, Bool.and_eq_true] at h
    obtain ⟨h, e22⟩ := h
    rw [beq_iff_eq] at e22
    rw [hK21, Bool.and_eq_true] at h
    obtain ⟨h, e21⟩ := h
    rw [beq_iff_eq] at e21
    rw [hK20, Bool.and_eq_true] at h
    obtain ⟨h, e20⟩ := h
    rw [beq_iff_eq] at e20
    rw [hK19, Bool.and_eq_true] at h
    obtain ⟨h, e19⟩ := h
    rw [beq_iff_eq] at e19
    rw [str_inj] at e19
    rw [hK18, Bool.and_eq_true] at h
    obtain ⟨h, e18⟩ := h
    rw [beq_iff_eq] at e18
    rw [str_inj] at e18
    rw [hK17, Bool.and_eq_true] at h
    obtain ⟨h, e17⟩ := h
    rw [beq_iff_eq] at e17
    rw [hK16, Bool.and_eq_true] at h
    obtain ⟨h, e16⟩ := h
    replace e16 := (hx16 h).1 e16
    rw [hK15, Bool.and_eq_true] at h
    obtain ⟨h, e15⟩ := h
    replace e15 := (hx15 h).1 e15
    rw [hK14, Bool.and_eq_true] at h
    obtain ⟨h, e14⟩ := h
    rw [beq_iff_eq] at e14
    rw [hK13, Bool.and_eq_true] at h
    obtain ⟨h, e13⟩ := h
    rw [beq_iff_eq] at e13
    rw [hK12, Bool.and_eq_true] at h
    obtain ⟨h, e12⟩ := h
    rw [beq_iff_eq] at e12
    rw [str_inj] at e12
    rw [hK11, Bool.and_eq_true] at h
    obtain ⟨h, e11⟩ := h
    rw [beq_iff_eq] at e11
    rw [hK10, Bool.and_eq_true] at h
    obtain ⟨h, e10⟩ := h
    rw [beq_iff_eq] at e10
    rw [hK9, Bool.and_eq_true] at h
    obtain ⟨h, e9⟩ := h
    rw [beq_iff_eq] at e9
    rw [hK8, Bool.and_eq_true] at h
    obtain ⟨h, e8⟩ := h
    rw [beq_iff_eq] at e8
    rw [hK7, Bool.and_eq_true] at h
    obtain ⟨h, e7⟩ := h
    rw [beq_iff_eq] at e7
    rw [hK6, Bool.and_eq_true] at h
    obtain ⟨h, e6⟩ := h
    rw [beq_iff_eq] at e6
    rw [hK5, Bool.and_eq_true] at h
    obtain ⟨h, e5⟩ := h
    rw [beq_iff_eq] at e5
    rw [hK4, Bool.and_eq_true] at h
    obtain ⟨h, e4⟩ := h
    rw [beq_iff_eq] at e4
    rw [str_inj] at e4
    rw [hK3, Bool.and_eq_true] at h
    obtain ⟨h, e3⟩ := h
    rw [beq_iff_eq] at e3
    rw [str_inj] at e3
    rw [hK2, Bool.and_eq_true] at h
    obtain ⟨h, e2⟩ := h
    rw [beq_iff_eq] at e2
    replace e2 := Subtype.ext e2
    rw [hK1, Bool.and_eq_true] at h
    obtain ⟨h, e1⟩ := h
    rw [beq_iff_eq] at e1
    replace e1 := Subtype.ext e1
    have e0 := hx0.1 h
    have hf : a.bare = b.bare := by unfold AskV.bare; rw [e1, e2, e3, e4, e5, e6, e7, e8, e9, e10, e11, e12, e13, e14, e17, e18, e19, e20, e21, e22]
    have hff := ha.f.trans (hf.trans hb.f.symm)
    cases A; cases B
    simp only at *
    rw [hff, e0, e15, e16]
  · intro e
    subst e
    have hf := ha.f.symm.trans hb.f
    unfold AskV.bare at hf
    injection hf with f_dialects f_guid f_proof f_user f_share f_access f_sharing f_way f_options f_level f_durable f_file f_name f_at_ f_n f_data f_locks f_most f_pattern f_after f_cls f_size_ f_on
    have h0 : acc0 = true := hx0.2 rfl
    have h1 : acc1 = true := by rw [hK1, h0, f_guid]; simp
    have h2 : acc2 = true := by rw [hK2, h1, f_proof]; simp
    have h3 : acc3 = true := by rw [hK3, h2, f_user]; simp
    have h4 : acc4 = true := by rw [hK4, h3, f_share]; simp
    have h5 : acc5 = true := by rw [hK5, h4, f_access]; simp
    have h6 : acc6 = true := by rw [hK6, h5, f_sharing]; simp
    have h7 : acc7 = true := by rw [hK7, h6, f_way]; simp
    have h8 : acc8 = true := by rw [hK8, h7, f_options]; simp
    have h9 : acc9 = true := by rw [hK9, h8, f_level]; simp
    have h10 : acc10 = true := by rw [hK10, h9, f_durable]; simp
    have h11 : acc11 = true := by rw [hK11, h10, f_file]; simp
    have h12 : acc12 = true := by rw [hK12, h11, f_name]; simp
    have h13 : acc13 = true := by rw [hK13, h12, f_at_]; simp
    have h14 : acc14 = true := by rw [hK14, h13, f_n]; simp
    have h15 : acc15 = true := by rw [hK15, h14, (hx15 h14).2 rfl]; rfl
    have h16 : acc16 = true := by rw [hK16, h15, (hx16 h15).2 rfl]; rfl
    have h17 : acc17 = true := by rw [hK17, h16, f_most]; simp
    have h18 : acc18 = true := by rw [hK18, h17, f_pattern]; simp
    have h19 : acc19 = true := by rw [hK19, h18, f_after]; simp
    have h20 : acc20 = true := by rw [hK20, h19, f_cls]; simp
    have h21 : acc21 = true := by rw [hK21, h20, f_size_]; simp
    have h22 : acc22 = true := by rw [hK22, h21, f_on]; simp
    exact h22
set_option maxHeartbeats 4000000 in
theorem says_any {a b : SayV} {A B : SayS} (ha : SayAt w a A) (hb : SayAt w b B) : CallP Tryz.prog 41 #[.agg a.cells, .agg b.cells] w (CmpX w A B) := by
  refine call_den (args := [_, _]) Tryz.func41 rfl rfl (by simp [Tryz.ntmps41]) ?_
  have hu : Upd noB w ((w.alloc (.cells a.cells 39)).alloc (.cells b.cells 39)) := ((Upd.refl _ _).alloc _).alloc _
  have hba : ((w.alloc (.cells a.cells 39)).alloc (.cells b.cells 39)).heap[w.heap.size]? = some (.cells a.cells 39 (0, 0)) := by rw [heap_alloc, if_neg (by simp), heap_alloc, if_pos rfl]
  have hbb : ((w.alloc (.cells a.cells 39)).alloc (.cells b.cells 39)).heap[w.heap.size + 1]? = some (.cells b.cells 39 (0, 0)) := by rw [heap_alloc, if_pos (by simp)]
  obtain ⟨acc0, hK0⟩ : ∃ x, x = (a.dialect == b.dialect) := ⟨_, rfl⟩
  simp [go_sem]
  generalize w.heap.size + 1 = bb at *
  generalize w.heap.size = ba at *
  refine opsS_cut 0 (CZ w ba bb a b 10 acc0) ?_ ?_
  · simp only [List.take_zero, opsS_nil]
    exact ⟨by simp [go_sem], by simp [go_sem], by simp [go_sem, hK0], hu, hba, hbb⟩
  clear hba hbb hu
  rintro ρ W ⟨g2, g3, gp, hu, hba, hbb⟩
  simp only [List.drop_zero]
  refine opsS_cut 6 (CZ w ba bb a b 16 (acc0 && (a.size_ == b.size_))) ?_ ?_
  · cases acc0 <;> simp [go_sem, CZ, g2, g3, gp, hba, hbb, hu]
  clear g2 g3 gp hba hbb hu
  rintro ρ W ⟨g2, g3, gp, hu, hba, hbb⟩
  obtain ⟨acc1, hK1⟩ : ∃ x, x = (acc0 && (a.size_ == b.size_)) := ⟨_, rfl⟩
  rw [← hK1] at gp
  simp only [List.drop_succ_cons, List.drop_zero]
  refine opsS_cut 7 (CZ w ba bb a b 23 (acc1 && (a.challenge.1 == b.challenge.1))) ?_ ?_
  · cases acc1 <;> simp [go_sem, CZ, g2, g3, gp, hba, hbb, hu]
  clear g2 g3 gp hba hbb hu
  rintro ρ W ⟨g2, g3, gp, hu, hba, hbb⟩
  obtain ⟨acc2, hK2⟩ : ∃ x, x = (acc1 && (a.challenge.1 == b.challenge.1)) := ⟨_, rfl⟩
  rw [← hK2] at gp
  simp only [List.drop_succ_cons, List.drop_zero]
  refine opsS_cut 7 (CZ w ba bb a b 30 (acc2 && (a.level == b.level))) ?_ ?_
  · cases acc2 <;> simp [go_sem, CZ, g2, g3, gp, hba, hbb, hu]
  clear g2 g3 gp hba hbb hu
  rintro ρ W ⟨g2, g3, gp, hu, hba, hbb⟩
  obtain ⟨acc3, hK3⟩ : ∃ x, x = (acc2 && (a.level == b.level)) := ⟨_, rfl⟩
  rw [← hK3] at gp
  simp only [List.drop_succ_cons, List.drop_zero]
  refine opsS_cut 7 (CZ w ba bb a b 37 (acc3 && (a.durable == b.durable))) ?_ ?_
  · cases acc3 <;> simp [go_sem, CZ, g2, g3, gp, hba, hbb, hu]
  clear g2 g3 gp hba hbb hu
  rintro ρ W ⟨g2, g3, gp, hu, hba, hbb⟩
  obtain ⟨acc4, hK4⟩ : ∃ x, x = (acc3 && (a.durable == b.durable)) := ⟨_, rfl⟩
  rw [← hK4] at gp
  simp only [List.drop_succ_cons, List.drop_zero]
  refine opsS_cut 7 (CZ w ba bb a b 44 (acc4 && (a.made == b.made))) ?_ ?_
  · cases acc4 <;> simp [go_sem, CZ, g2, g3, gp, hba, hbb, hu]
  clear g2 g3 gp hba hbb hu
  rintro ρ W ⟨g2, g3, gp, hu, hba, hbb⟩
  obtain ⟨acc5, hK5⟩ : ∃ x, x = (acc4 && (a.made == b.made)) := ⟨_, rfl⟩
  rw [← hK5] at gp
  simp only [List.drop_succ_cons, List.drop_zero]
  refine opsS_cut 7 (CZ w ba bb a b 51 (acc5 && (a.file == b.file))) ?_ ?_
  · cases acc5 <;> simp [go_sem, CZ, g2, g3, gp, hba, hbb, hu]
  clear g2 g3 gp hba hbb hu
  rintro ρ W ⟨g2, g3, gp, hu, hba, hbb⟩
  obtain ⟨acc6, hK6⟩ : ∃ x, x = (acc5 && (a.file == b.file)) := ⟨_, rfl⟩
  rw [← hK6] at gp
  simp only [List.drop_succ_cons, List.drop_zero]
  refine opsS_cut 7 (CZ w ba bb a b 58 (acc6 && (a.kind == b.kind))) ?_ ?_
  · cases acc6 <;> simp [go_sem, CZ, g2, g3, gp, hba, hbb, hu]
  clear g2 g3 gp hba hbb hu
  rintro ρ W ⟨g2, g3, gp, hu, hba, hbb⟩
  obtain ⟨acc7, hK7⟩ : ∃ x, x = (acc6 && (a.kind == b.kind)) := ⟨_, rfl⟩
  rw [← hK7] at gp
  simp only [List.drop_succ_cons, List.drop_zero]
  refine opsS_cut 7 (CZE w ba bb a b 65 acc7 (A.dat = B.dat)) ?_ ?_
  · cases acc7
    · simp [go_sem, g2, g3, gp, hba, hbb]
      exact ⟨false, by simp, by simp [go_sem, CZ, g2, g3, gp, hba, hbb, hu]⟩
    · simp [go_sem, g2, g3, gp, hba, hbb]
      refine CallP.mono (sameB_any ((ha.keep hu).dat.1) ((hb.keep hu).dat.1) (by have := ha.tl; omega)) ?_
      rintro v W ⟨x, rfl, hx, ux⟩
      simp [go_sem]
      refine ⟨x, fun _ => hx, ?_⟩
      simp [go_sem, CZ, g2, g3, ux.get hba (fun h => h), ux.get hbb (fun h => h), hu.trans ux]
  clear g2 g3 gp hba hbb hu
  rintro ρ W ⟨x8, hx8, g2, g3, gp, hu, hba, hbb⟩
  obtain ⟨acc8, hK8⟩ : ∃ x, x = (acc7 && x8) := ⟨_, rfl⟩
  rw [← hK8] at gp
  simp only [List.drop_succ_cons, List.drop_zero]
  refine opsS_cut 7 (CZ w ba bb a b 72 (acc8 && (a.n == b.n))) ?_ ?_
  · cases acc8 <;> simp [go_sem, CZ, g2, g3, gp, hba, hbb, hu]
  clear g2 g3 gp hba hbb hu
  rintro ρ W ⟨g2, g3, gp, hu, hba, hbb⟩
  obtain ⟨acc9, hK9⟩ : ∃ x, x = (acc8 && (a.n == b.n)) := ⟨_, rfl⟩
  rw [← hK9] at gp
  simp only [List.drop_succ_cons, List.drop_zero]
  refine opsS_cut 7 (CZE w ba bb a b 79 acc9 (A.ent = B.ent)) ?_ ?_
  · cases acc9
    · simp [go_sem, g2, g3, gp, hba, hbb]
      exact ⟨false, by simp, by simp [go_sem, CZ, g2, g3, gp, hba, hbb, hu]⟩
    · simp [go_sem, g2, g3, gp, hba, hbb]
      refine CallP.mono (entriesB_any ((ha.keep hu).ent) ((hb.keep hu).ent) (by have := ha.el; omega)) ?_
      rintro v W ⟨x, rfl, hx, ux⟩
      simp [go_sem]
      refine ⟨x, fun _ => hx, ?_⟩
      simp [go_sem, CZ, g2, g3, ux.get hba (fun h => h), ux.get hbb (fun h => h), hu.trans ux]
  clear g2 g3 gp hba hbb hu
  rintro ρ W ⟨x10, hx10, g2, g3, gp, hu, hba, hbb⟩
  obtain ⟨acc10, hK10⟩ : ∃ x, x = (acc9 && x10) := ⟨_, rfl⟩
  rw [← hK10] at gp
  simp only [List.drop_succ_cons, List.drop_zero]
  refine opsS_cut 7 (CZ w ba bb a b 86 (acc10 && (a.more == b.more))) ?_ ?_
  · cases acc10 <;> simp [go_sem, CZ, g2, g3, gp, hba, hbb, hu]
  clear g2 g3 gp hba hbb hu
  rintro ρ W ⟨g2, g3, gp, hu, hba, hbb⟩
  obtain ⟨acc11, hK11⟩ : ∃ x, x = (acc10 && (a.more == b.more)) := ⟨_, rfl⟩
  rw [← hK11] at gp
  simp only [List.drop_succ_cons, List.drop_zero]
  refine opsS_cut 7 (CZ w ba bb a b 93 (acc11 && (a.gone == b.gone))) ?_ ?_
  · cases acc11 <;> simp [go_sem, CZ, g2, g3, gp, hba, hbb, hu]
  clear g2 g3 gp hba hbb hu
  rintro ρ W ⟨g2, g3, gp, hu, hba, hbb⟩
  obtain ⟨acc12, hK12⟩ : ∃ x, x = (acc11 && (a.gone == b.gone)) := ⟨_, rfl⟩
  rw [← hK12] at gp
  simp only [List.drop_succ_cons, List.drop_zero]
  simp [go_sem, gp]
  refine ⟨acc12, rfl, ?_, hu⟩
  constructor
  · intro h
    rw [hK12, Bool.and_eq_true] at h
    obtain ⟨h, e12⟩ := h
    rw [beq_iff_eq] at e12
    rw [hK11, Bool.and_eq_true] at h
    obtain ⟨h, e11⟩ := h
    rw [beq_iff_eq] at e11
    rw [hK10, Bool.and_eq_true] at h
    obtain ⟨h, e10⟩ := h
    replace e10 := (hx10 h).1 e10
    rw [hK9, Bool.and_eq_true] at h
    obtain ⟨h, e9⟩ := h
    rw [beq_iff_eq] at e9
    rw [hK8, Bool.and_eq_true] at h
    obtain ⟨h, e8⟩ := h
    replace e8 := (hx8 h).1 e8
    rw [hK7, Bool.and_eq_true] at h
    obtain ⟨h, e7⟩ := h
    rw [beq_iff_eq] at e7
    rw [hK6, Bool.and_eq_true] at h
    obtain ⟨h, e6⟩ := h
    rw [beq_iff_eq] at e6
    rw [hK5, Bool.and_eq_true] at h
    obtain ⟨h, e5⟩ := h
    rw [beq_iff_eq] at e5
    rw [hK4, Bool.and_eq_true] at h
    obtain ⟨h, e4⟩ := h
    rw [beq_iff_eq] at e4
    rw [hK3, Bool.and_eq_true] at h
    obtain ⟨h, e3⟩ := h
    rw [beq_iff_eq] at e3
    rw [hK2, Bool.and_eq_true] at h
    obtain ⟨h, e2⟩ := h
    rw [beq_iff_eq] at e2
    replace e2 := Subtype.ext e2
    rw [hK1, Bool.and_eq_true] at h
    obtain ⟨h, e1⟩ := h
    rw [beq_iff_eq] at e1
    rw [hK0, beq_iff_eq] at h
    have hf : a.bare = b.bare := by unfold SayV.bare; rw [h, e1, e2, e3, e4, e5, e6, e7, e9, e11, e12]
    have hff := ha.f.trans (hf.trans hb.f.symm)
    cases A; cases B
    simp only at *
    rw [hff, e8, e10]
  · intro e
    subst e
    have hf := ha.f.symm.trans hb.f
    unfold SayV.bare at hf
    injection hf with f_dialect f_size_ f_challenge f_level f_durable f_made f_file f_kind f_data f_n f_entries f_more f_gone
    have h0 : acc0 = true := by rw [hK0, f_dialect]; simp
    have h1 : acc1 = true := by rw [hK1, h0, f_size_]; simp
    have h2 : acc2 = true := by rw [hK2, h1, f_challenge]; simp
    have h3 : acc3 = true := by rw [hK3, h2, f_level]; simp
    have h4 : acc4 = true := by rw [hK4, h3, f_durable]; simp
    have h5 : acc5 = true := by rw [hK5, h4, f_made]; simp
    have h6 : acc6 = true := by rw [hK6, h5, f_file]; simp
    have h7 : acc7 = true := by rw [hK7, h6, f_kind]; simp
    have h8 : acc8 = true := by rw [hK8, h7, (hx8 h7).2 rfl]; rfl
    have h9 : acc9 = true := by rw [hK9, h8, f_n]; simp
    have h10 : acc10 = true := by rw [hK10, h9, (hx10 h9).2 rfl]; rfl
    have h11 : acc11 = true := by rw [hK11, h10, f_more]; simp
    have h12 : acc12 = true := by rw [hK12, h11, f_gone]; simp
    exact h12
end Go.Proofs.YtinfdomlpbikaaaGreatDoor
namespace Go.Proofs.YtinfdomlpbikaaaGreatDoor
open Go.Eng Go.Lib
set_option linter.unusedSimpArgs false
set_option linter.unusedVariables false
set_option maxRecDepth 100000
variable {w w0 : World}
def SameN (a b : AskV) : Prop := a.bare = b.bare ∧ a.dialects.n = b.dialects.n ∧ a.data.n = b.data.n ∧ a.locks.n = b.locks.n
def SameI (a b : AskV) : Prop := a.bare = b.bare ∧ a.dialects.n + a.data.n + a.locks.n = b.dialects.n + b.data.n + b.locks.n
def SameNS (a b : SayV) : Prop := a.bare = b.bare ∧ a.data.n = b.data.n ∧ a.entries.n = b.entries.n
def SameIS (a b : SayV) : Prop := a.bare = b.bare ∧ a.data.n + b.data.n = 0 ∧ a.entries.n = b.entries.n
def AskV.lens (a : AskV) : Prop := a.dialects.n ≤ 1099511627776 ∧ a.data.n ≤ 1099511627776 ∧ a.locks.n ≤ 1099511627776
def SayV.lens (a : SayV) : Prop := a.data.n ≤ 1099511627776 ∧ a.entries.n ≤ 1099511627776
theorem natBeq (x y : Nat) : (((x : Nat) : Int) == ((y : Nat) : Int)) = decide (x = y) := by
  rw [Bool.eq_iff_iff]; simp; omega
def IffX (w : World) (p : Prop) (r : Value) (w' : World) : Prop := ∃ x, r = .bool x ∧ (x = true ↔ p) ∧ Upd noB w w'
set_option maxHeartbeats 4000000 in
theorem fileSame_any {a b : AskV} : CallP Tryz.prog 116 #[.agg a.cells, .agg b.cells] w (IffX w (SameN a b)) := by
  refine call_den (args := [_, _]) Tryz.func116 rfl rfl (by simp [Tryz.ntmps116]) ?_
  have hu : Upd noB w ((w.alloc (.cells a.cells 34)).alloc (.cells b.cells 34)) := ((Upd.refl _ _).alloc _).alloc _
  have hba : ((w.alloc (.cells a.cells 34)).alloc (.cells b.cells 34)).heap[w.heap.size]? = some (.cells a.cells 34 (0, 0)) := by rw [heap_alloc, if_neg (by simp), heap_alloc, if_pos rfl]
  have hbb : ((w.alloc (.cells a.cells 34)).alloc (.cells b.cells 34)).heap[w.heap.size + 1]? = some (.cells b.cells 34 (0, 0)) := by rw [heap_alloc, if_pos (by simp)]
  obtain ⟨acc0, hK0⟩ : ∃ x, x = (decide (a.dialects.n = b.dialects.n)) := ⟨_, rfl⟩
  simp [go_sem]
  generalize w.heap.size + 1 = bb at *
  generalize w.heap.size = ba at *
  refine opsS_cut 0 (CQ w ba bb a b 12 acc0) ?_ ?_
  · simp only [List.take_zero, opsS_nil]
    exact ⟨by simp [go_sem], by simp [go_sem], by simp [go_sem, hK0, natBeq], hu, hba, hbb⟩
  clear hba hbb hu
  rintro ρ W ⟨g2, g3, gp, hu, hba, hbb⟩
  simp only [List.drop_zero]
  refine opsS_cut 6 (CQ w ba bb a b 18 (acc0 && (a.guid.1 == b.guid.1))) ?_ ?_
  · cases acc0 <;> simp [go_sem, CQ, g2, g3, gp, hba, hbb, hu, natBeq]
  clear g2 g3 gp hba hbb hu
  rintro ρ W ⟨g2, g3, gp, hu, hba, hbb⟩
  obtain ⟨acc1, hK1⟩ : ∃ x, x = (acc0 && (a.guid.1 == b.guid.1)) := ⟨_, rfl⟩
  rw [← hK1] at gp
  simp only [List.drop_succ_cons, List.drop_zero]
  refine opsS_cut 7 (CQ w ba bb a b 25 (acc1 && (a.proof.1 == b.proof.1))) ?_ ?_
  · cases acc1 <;> simp [go_sem, CQ, g2, g3, gp, hba, hbb, hu, natBeq]
  clear g2 g3 gp hba hbb hu
  rintro ρ W ⟨g2, g3, gp, hu, hba, hbb⟩
  obtain ⟨acc2, hK2⟩ : ∃ x, x = (acc1 && (a.proof.1 == b.proof.1)) := ⟨_, rfl⟩
  rw [← hK2] at gp
  simp only [List.drop_succ_cons, List.drop_zero]
  refine opsS_cut 7 (CQ w ba bb a b 32 (acc2 && (a.user.toList == b.user.toList))) ?_ ?_
  · cases acc2 <;> simp [go_sem, CQ, g2, g3, gp, hba, hbb, hu, natBeq]
  clear g2 g3 gp hba hbb hu
  rintro ρ W ⟨g2, g3, gp, hu, hba, hbb⟩
  obtain ⟨acc3, hK3⟩ : ∃ x, x = (acc2 && (a.user.toList == b.user.toList)) := ⟨_, rfl⟩
  rw [← hK3] at gp
  simp only [List.drop_succ_cons, List.drop_zero]
  refine opsS_cut 7 (CQ w ba bb a b 39 (acc3 && (a.share.toList == b.share.toList))) ?_ ?_
  · cases acc3 <;> simp [go_sem, CQ, g2, g3, gp, hba, hbb, hu, natBeq]
  clear g2 g3 gp hba hbb hu
  rintro ρ W ⟨g2, g3, gp, hu, hba, hbb⟩
  obtain ⟨acc4, hK4⟩ : ∃ x, x = (acc3 && (a.share.toList == b.share.toList)) := ⟨_, rfl⟩
  rw [← hK4] at gp
  simp only [List.drop_succ_cons, List.drop_zero]
  refine opsS_cut 7 (CQ w ba bb a b 46 (acc4 && (a.access == b.access))) ?_ ?_
  · cases acc4 <;> simp [go_sem, CQ, g2, g3, gp, hba, hbb, hu, natBeq]
  clear g2 g3 gp hba hbb hu
  rintro ρ W ⟨g2, g3, gp, hu, hba, hbb⟩
  obtain ⟨acc5, hK5⟩ : ∃ x, x = (acc4 && (a.access == b.access)) := ⟨_, rfl⟩
  rw [← hK5] at gp
  simp only [List.drop_succ_cons, List.drop_zero]
  refine opsS_cut 7 (CQ w ba bb a b 53 (acc5 && (a.sharing == b.sharing))) ?_ ?_
  · cases acc5 <;> simp [go_sem, CQ, g2, g3, gp, hba, hbb, hu, natBeq]
  clear g2 g3 gp hba hbb hu
  rintro ρ W ⟨g2, g3, gp, hu, hba, hbb⟩
  obtain ⟨acc6, hK6⟩ : ∃ x, x = (acc5 && (a.sharing == b.sharing)) := ⟨_, rfl⟩
  rw [← hK6] at gp
  simp only [List.drop_succ_cons, List.drop_zero]
  refine opsS_cut 7 (CQ w ba bb a b 60 (acc6 && (a.way == b.way))) ?_ ?_
  · cases acc6 <;> simp [go_sem, CQ, g2, g3, gp, hba, hbb, hu, natBeq]
  clear g2 g3 gp hba hbb hu
  rintro ρ W ⟨g2, g3, gp, hu, hba, hbb⟩
  obtain ⟨acc7, hK7⟩ : ∃ x, x = (acc6 && (a.way == b.way)) := ⟨_, rfl⟩
  rw [← hK7] at gp
  simp only [List.drop_succ_cons, List.drop_zero]
  refine opsS_cut 7 (CQ w ba bb a b 67 (acc7 && (a.options == b.options))) ?_ ?_
  · cases acc7 <;> simp [go_sem, CQ, g2, g3, gp, hba, hbb, hu, natBeq]
  clear g2 g3 gp hba hbb hu
  rintro ρ W ⟨g2, g3, gp, hu, hba, hbb⟩
  obtain ⟨acc8, hK8⟩ : ∃ x, x = (acc7 && (a.options == b.options)) := ⟨_, rfl⟩
  rw [← hK8] at gp
  simp only [List.drop_succ_cons, List.drop_zero]
  refine opsS_cut 7 (CQ w ba bb a b 74 (acc8 && (a.level == b.level))) ?_ ?_
  · cases acc8 <;> simp [go_sem, CQ, g2, g3, gp, hba, hbb, hu, natBeq]
  clear g2 g3 gp hba hbb hu
  rintro ρ W ⟨g2, g3, gp, hu, hba, hbb⟩
  obtain ⟨acc9, hK9⟩ : ∃ x, x = (acc8 && (a.level == b.level)) := ⟨_, rfl⟩
  rw [← hK9] at gp
  simp only [List.drop_succ_cons, List.drop_zero]
  refine opsS_cut 7 (CQ w ba bb a b 81 (acc9 && (a.durable == b.durable))) ?_ ?_
  · cases acc9 <;> simp [go_sem, CQ, g2, g3, gp, hba, hbb, hu, natBeq]
  clear g2 g3 gp hba hbb hu
  rintro ρ W ⟨g2, g3, gp, hu, hba, hbb⟩
  obtain ⟨acc10, hK10⟩ : ∃ x, x = (acc9 && (a.durable == b.durable)) := ⟨_, rfl⟩
  rw [← hK10] at gp
  simp only [List.drop_succ_cons, List.drop_zero]
  refine opsS_cut 7 (CQ w ba bb a b 88 (acc10 && (a.file == b.file))) ?_ ?_
  · cases acc10 <;> simp [go_sem, CQ, g2, g3, gp, hba, hbb, hu, natBeq]
  clear g2 g3 gp hba hbb hu
  rintro ρ W ⟨g2, g3, gp, hu, hba, hbb⟩
  obtain ⟨acc11, hK11⟩ : ∃ x, x = (acc10 && (a.file == b.file)) := ⟨_, rfl⟩
  rw [← hK11] at gp
  simp only [List.drop_succ_cons, List.drop_zero]
  refine opsS_cut 7 (CQ w ba bb a b 95 (acc11 && (a.name.toList == b.name.toList))) ?_ ?_
  · cases acc11 <;> simp [go_sem, CQ, g2, g3, gp, hba, hbb, hu, natBeq]
  clear g2 g3 gp hba hbb hu
  rintro ρ W ⟨g2, g3, gp, hu, hba, hbb⟩
  obtain ⟨acc12, hK12⟩ : ∃ x, x = (acc11 && (a.name.toList == b.name.toList)) := ⟨_, rfl⟩
  rw [← hK12] at gp
  simp only [List.drop_succ_cons, List.drop_zero]
  refine opsS_cut 7 (CQ w ba bb a b 102 (acc12 && (a.at_ == b.at_))) ?_ ?_
  · cases acc12 <;> simp [go_sem, CQ, g2, g3, gp, hba, hbb, hu, natBeq]
  clear g2 g3 gp hba hbb hu
  rintro ρ W ⟨g2, g3, gp, hu, hba, hbb⟩
  obtain ⟨acc13, hK13⟩ : ∃ x, x = (acc12 && (a.at_ == b.at_)) := ⟨_, rfl⟩
  rw [← hK13] at gp
  simp only [List.drop_succ_cons, List.drop_zero]
  refine opsS_cut 7 (CQ w ba bb a b 109 (acc13 && (a.n == b.n))) ?_ ?_
  · cases acc13 <;> simp [go_sem, CQ, g2, g3, gp, hba, hbb, hu, natBeq]
  clear g2 g3 gp hba hbb hu
  rintro ρ W ⟨g2, g3, gp, hu, hba, hbb⟩
  obtain ⟨acc14, hK14⟩ : ∃ x, x = (acc13 && (a.n == b.n)) := ⟨_, rfl⟩
  rw [← hK14] at gp
  simp only [List.drop_succ_cons, List.drop_zero]
  refine opsS_cut 9 (CQ w ba bb a b 118 (acc14 && (decide (a.data.n = b.data.n)))) ?_ ?_
  · cases acc14 <;> simp [go_sem, CQ, g2, g3, gp, hba, hbb, hu, natBeq]
  clear g2 g3 gp hba hbb hu
  rintro ρ W ⟨g2, g3, gp, hu, hba, hbb⟩
  obtain ⟨acc15, hK15⟩ : ∃ x, x = (acc14 && (decide (a.data.n = b.data.n))) := ⟨_, rfl⟩
  rw [← hK15] at gp
  simp only [List.drop_succ_cons, List.drop_zero]
  refine opsS_cut 9 (CQ w ba bb a b 127 (acc15 && (decide (a.locks.n = b.locks.n)))) ?_ ?_
  · cases acc15 <;> simp [go_sem, CQ, g2, g3, gp, hba, hbb, hu, natBeq]
  clear g2 g3 gp hba hbb hu
  rintro ρ W ⟨g2, g3, gp, hu, hba, hbb⟩
  obtain ⟨acc16, hK16⟩ : ∃ x, x = (acc15 && (decide (a.locks.n = b.locks.n))) := ⟨_, rfl⟩
  rw [← hK16] at gp
  simp only [List.drop_succ_cons, List.drop_zero]
  refine opsS_cut 7 (CQ w ba bb a b 134 (acc16 && (a.most == b.most))) ?_ ?_
  · cases acc16 <;> simp [go_sem, CQ, g2, g3, gp, hba, hbb, hu, natBeq]
  clear g2 g3 gp hba hbb hu
  rintro ρ W ⟨g2, g3, gp, hu, hba, hbb⟩
  obtain ⟨acc17, hK17⟩ : ∃ x, x = (acc16 && (a.most == b.most)) := ⟨_, rfl⟩
  rw [← hK17] at gp
  simp only [List.drop_succ_cons, List.drop_zero]
  refine opsS_cut 7 (CQ w ba bb a b 141 (acc17 && (a.pattern.toList == b.pattern.toList))) ?_ ?_
  · cases acc17 <;> simp [go_sem, CQ, g2, g3, gp, hba, hbb, hu, natBeq]
  clear g2 g3 gp hba hbb hu
  rintro ρ W ⟨g2, g3, gp, hu, hba, hbb⟩
  obtain ⟨acc18, hK18⟩ : ∃ x, x = (acc17 && (a.pattern.toList == b.pattern.toList)) := ⟨_, rfl⟩
  rw [← hK18] at gp
  simp only [List.drop_succ_cons, List.drop_zero]
  refine opsS_cut 7 (CQ w ba bb a b 148 (acc18 && (a.after.toList == b.after.toList))) ?_ ?_
  · cases acc18 <;> simp [go_sem, CQ, g2, g3, gp, hba, hbb, hu, natBeq]
  clear g2 g3 gp hba hbb hu
  rintro ρ W ⟨g2, g3, gp, hu, hba, hbb⟩
  obtain ⟨acc19, hK19⟩ : ∃ x, x = (acc18 && (a.after.toList == b.after.toList)) := ⟨_, rfl⟩
  rw [← hK19] at gp
  simp only [List.drop_succ_cons, List.drop_zero]
  refine opsS_cut 7 (CQ w ba bb a b 155 (acc19 && (a.cls == b.cls))) ?_ ?_
  · cases acc19 <;> simp [go_sem, CQ, g2, g3, gp, hba, hbb, hu, natBeq]
  clear g2 g3 gp hba hbb hu
  rintro ρ W ⟨g2, g3, gp, hu, hba, hbb⟩
  obtain ⟨acc20, hK20⟩ : ∃ x, x = (acc19 && (a.cls == b.cls)) := ⟨_, rfl⟩
  rw [← hK20] at gp
  simp only [List.drop_succ_cons, List.drop_zero]
  refine opsS_cut 7 (CQ w ba bb a b 162 (acc20 && (a.size_ == b.size_))) ?_ ?_
  · cases acc20 <;> simp [go_sem, CQ, g2, g3, gp, hba, hbb, hu, natBeq]
  clear g2 g3 gp hba hbb hu
  rintro ρ W ⟨g2, g3, gp, hu, hba, hbb⟩
  obtain ⟨acc21, hK21⟩ : ∃ x, x = (acc20 && (a.size_ == b.size_)) := ⟨_, rfl⟩
  rw [← hK21] at gp
  simp only [List.drop_succ_cons, List.drop_zero]
  refine opsS_cut 7 (CQ w ba bb a b 169 (acc21 && (a.on == b.on))) ?_ ?_
  · cases acc21 <;> simp [go_sem, CQ, g2, g3, gp, hba, hbb, hu, natBeq]
  clear g2 g3 gp hba hbb hu
  rintro ρ W ⟨g2, g3, gp, hu, hba, hbb⟩
  obtain ⟨acc22, hK22⟩ : ∃ x, x = (acc21 && (a.on == b.on)) := ⟨_, rfl⟩
  rw [← hK22] at gp
  simp only [List.drop_succ_cons, List.drop_zero]
  simp [go_sem, gp]
  refine ⟨acc22, rfl, ?_, hu⟩
  constructor
  · intro h
    rw [hK22, Bool.and_eq_true] at h
    obtain ⟨h, e22⟩ := h
    rw [beq_iff_eq] at e22
    rw [hK21, Bool.and_eq_true] at h
    obtain ⟨h, e21⟩ := h
    rw [beq_iff_eq] at e21
    rw [hK20, Bool.and_eq_true] at h
    obtain ⟨h, e20⟩ := h
    rw [beq_iff_eq] at e20
    rw [hK19, Bool.and_eq_true] at h
    obtain ⟨h, e19⟩ := h
    rw [beq_iff_eq] at e19
    rw [str_inj] at e19
    rw [hK18, Bool.and_eq_true] at h
    obtain ⟨h, e18⟩ := h
    rw [beq_iff_eq] at e18
    rw [str_inj] at e18
    rw [hK17, Bool.and_eq_true] at h
    obtain ⟨h, e17⟩ := h
    rw [beq_iff_eq] at e17
    rw [hK16, Bool.and_eq_true] at h
    obtain ⟨h, e16⟩ := h
    replace e16 := of_decide_eq_true e16
    rw [hK15, Bool.and_eq_true] at h
    obtain ⟨h, e15⟩ := h
    replace e15 := of_decide_eq_true e15
    rw [hK14, Bool.and_eq_true] at h
    obtain ⟨h, e14⟩ := h
    rw [beq_iff_eq] at e14
    rw [hK13, Bool.and_eq_true] at h
    obtain ⟨h, e13⟩ := h
    rw [beq_iff_eq] at e13
    rw [hK12, Bool.and_eq_true] at h
    obtain ⟨h, e12⟩ := h
    rw [beq_iff_eq] at e12
    rw [str_inj] at e12
    rw [hK11, Bool.and_eq_true] at h
    obtain ⟨h, e11⟩ := h
    rw [beq_iff_eq] at e11
    rw [hK10, Bool.and_eq_true] at h
    obtain ⟨h, e10⟩ := h
    rw [beq_iff_eq] at e10
    rw [hK9, Bool.and_eq_true] at h
    obtain ⟨h, e9⟩ := h
    rw [beq_iff_eq] at e9
    rw [hK8, Bool.and_eq_true] at h
    obtain ⟨h, e8⟩ := h
    rw [beq_iff_eq] at e8
    rw [hK7, Bool.and_eq_true] at h
    obtain ⟨h, e7⟩ := h
    rw [beq_iff_eq] at e7
    rw [hK6, Bool.and_eq_true] at h
    obtain ⟨h, e6⟩ := h
    rw [beq_iff_eq] at e6
    rw [hK5, Bool.and_eq_true] at h
    obtain ⟨h, e5⟩ := h
    rw [beq_iff_eq] at e5
    rw [hK4, Bool.and_eq_true] at h
    obtain ⟨h, e4⟩ := h
    rw [beq_iff_eq] at e4
    rw [str_inj] at e4
    rw [hK3, Bool.and_eq_true] at h
    obtain ⟨h, e3⟩ := h
    rw [beq_iff_eq] at e3
    rw [str_inj] at e3
    rw [hK2, Bool.and_eq_true] at h
    obtain ⟨h, e2⟩ := h
    rw [beq_iff_eq] at e2
    replace e2 := Subtype.ext e2
    rw [hK1, Bool.and_eq_true] at h
    obtain ⟨h, e1⟩ := h
    rw [beq_iff_eq] at e1
    replace e1 := Subtype.ext e1
    replace h := of_decide_eq_true (hK0.symm.trans h)
    have hf : a.bare = b.bare := by unfold AskV.bare; rw [e1, e2, e3, e4, e5, e6, e7, e8, e9, e10, e11, e12, e13, e14, e17, e18, e19, e20, e21, e22]
    exact ⟨hf, h, e15, e16⟩
  · rintro ⟨hf, m0, m15, m16⟩
    unfold AskV.bare at hf
    injection hf with f_dialects f_guid f_proof f_user f_share f_access f_sharing f_way f_options f_level f_durable f_file f_name f_at_ f_n f_data f_locks f_most f_pattern f_after f_cls f_size_ f_on
    have h0 : acc0 = true := by rw [hK0, decide_eq_true m0]
    have h1 : acc1 = true := by rw [hK1, h0, f_guid]; simp
    have h2 : acc2 = true := by rw [hK2, h1, f_proof]; simp
    have h3 : acc3 = true := by rw [hK3, h2, f_user]; simp
    have h4 : acc4 = true := by rw [hK4, h3, f_share]; simp
    have h5 : acc5 = true := by rw [hK5, h4, f_access]; simp
    have h6 : acc6 = true := by rw [hK6, h5, f_sharing]; simp
    have h7 : acc7 = true := by rw [hK7, h6, f_way]; simp
    have h8 : acc8 = true := by rw [hK8, h7, f_options]; simp
    have h9 : acc9 = true := by rw [hK9, h8, f_level]; simp
    have h10 : acc10 = true := by rw [hK10, h9, f_durable]; simp
    have h11 : acc11 = true := by rw [hK11, h10, f_file]; simp
    have h12 : acc12 = true := by rw [hK12, h11, f_name]; simp
    have h13 : acc13 = true := by rw [hK13, h12, f_at_]; simp
    have h14 : acc14 = true := by rw [hK14, h13, f_n]; simp
    have h15 : acc15 = true := by rw [hK15, h14, decide_eq_true m15]; rfl
    have h16 : acc16 = true := by rw [hK16, h15, decide_eq_true m16]; rfl
    have h17 : acc17 = true := by rw [hK17, h16, f_most]; simp
    have h18 : acc18 = true := by rw [hK18, h17, f_pattern]; simp
    have h19 : acc19 = true := by rw [hK19, h18, f_after]; simp
    have h20 : acc20 = true := by rw [hK20, h19, f_cls]; simp
    have h21 : acc21 = true := by rw [hK21, h20, f_size_]; simp
    have h22 : acc22 = true := by rw [hK22, h21, f_on]; simp
    exact h22
set_option maxHeartbeats 4000000 in
theorem infoSame_any {a b : AskV} (la : a.lens) (lb : b.lens) : CallP Tryz.prog 131 #[.agg a.cells, .agg b.cells] w (IffX w (SameI a b)) := by
  refine call_den (args := [_, _]) Tryz.func131 rfl rfl (by simp [Tryz.ntmps131]) ?_
  have hu : Upd noB w ((w.alloc (.cells a.cells 34)).alloc (.cells b.cells 34)) := ((Upd.refl _ _).alloc _).alloc _
  have hba : ((w.alloc (.cells a.cells 34)).alloc (.cells b.cells 34)).heap[w.heap.size]? = some (.cells a.cells 34 (0, 0)) := by rw [heap_alloc, if_neg (by simp), heap_alloc, if_pos rfl]
  have hbb : ((w.alloc (.cells a.cells 34)).alloc (.cells b.cells 34)).heap[w.heap.size + 1]? = some (.cells b.cells 34 (0, 0)) := by rw [heap_alloc, if_pos (by simp)]
  have w2 : ∀ x : AskV, x.lens → IntKind.i64.wrap ((x.dialects.n : Int) + x.data.n) = (x.dialects.n : Int) + x.data.n := fun x h => by have := h.1; have := h.2.1; rw [wrap64_id (by omega) (by omega)]
  have w3 : ∀ x : AskV, x.lens → IntKind.i64.wrap ((x.dialects.n : Int) + x.data.n + x.locks.n) = (x.dialects.n : Int) + x.data.n + x.locks.n := fun x h => by have := h.1; have := h.2.1; have := h.2.2; rw [wrap64_id (by omega) (by omega)]
  have wa2 := w2 a la
  have wb2 := w2 b lb
  have wa3 := w3 a la
  have wb3 := w3 b lb
  have hsum0 : ((a.dialects.n : Int) + a.data.n + a.locks.n == (b.dialects.n : Int) + b.data.n + b.locks.n) = decide (a.dialects.n + a.data.n + a.locks.n = b.dialects.n + b.data.n + b.locks.n) := by rw [Bool.eq_iff_iff]; simp; omega
  obtain ⟨acc0, hK0⟩ : ∃ x, x = (decide (a.dialects.n + a.data.n + a.locks.n = b.dialects.n + b.data.n + b.locks.n)) := ⟨_, rfl⟩
  simp [go_sem, wa2, wb2, wa3, wb3]
  generalize w.heap.size + 1 = bb at *
  generalize w.heap.size = ba at *
  refine opsS_cut 0 (CQ w ba bb a b 28 acc0) ?_ ?_
  · simp only [List.take_zero, opsS_nil]
    exact ⟨by simp [go_sem], by simp [go_sem], by simp [go_sem, hK0, natBeq, hsum0], hu, hba, hbb⟩
  clear hba hbb hu
  rintro ρ W ⟨g2, g3, gp, hu, hba, hbb⟩
  simp only [List.drop_zero]
  refine opsS_cut 6 (CQ w ba bb a b 34 (acc0 && (a.guid.1 == b.guid.1))) ?_ ?_
  · cases acc0 <;> simp [go_sem, CQ, g2, g3, gp, hba, hbb, hu, natBeq]
  clear g2 g3 gp hba hbb hu
  rintro ρ W ⟨g2, g3, gp, hu, hba, hbb⟩
  obtain ⟨acc1, hK1⟩ : ∃ x, x = (acc0 && (a.guid.1 == b.guid.1)) := ⟨_, rfl⟩
  rw [← hK1] at gp
  simp only [List.drop_succ_cons, List.drop_zero]
  refine opsS_cut 7 (CQ w ba bb a b 41 (acc1 && (a.proof.1 == b.proof.1))) ?_ ?_
  · cases acc1 <;> simp [go_sem, CQ, g2, g3, gp, hba, hbb, hu, natBeq]
  clear g2 g3 gp hba hbb hu
  rintro ρ W ⟨g2, g3, gp, hu, hba, hbb⟩
  obtain ⟨acc2, hK2⟩ : ∃ x, x = (acc1 && (a.proof.1 == b.proof.1)) := ⟨_, rfl⟩
  rw [← hK2] at gp
  simp only [List.drop_succ_cons, List.drop_zero]
  refine opsS_cut 7 (CQ w ba bb a b 48 (acc2 && (a.user.toList == b.user.toList))) ?_ ?_
  · cases acc2 <;> simp [go_sem, CQ, g2, g3, gp, hba, hbb, hu, natBeq]
  clear g2 g3 gp hba hbb hu
  rintro ρ W ⟨g2, g3, gp, hu, hba, hbb⟩
  obtain ⟨acc3, hK3⟩ : ∃ x, x = (acc2 && (a.user.toList == b.user.toList)) := ⟨_, rfl⟩
  rw [← hK3] at gp
  simp only [List.drop_succ_cons, List.drop_zero]
  refine opsS_cut 7 (CQ w ba bb a b 55 (acc3 && (a.share.toList == b.share.toList))) ?_ ?_
  · cases acc3 <;> simp [go_sem, CQ, g2, g3, gp, hba, hbb, hu, natBeq]
  clear g2 g3 gp hba hbb hu
  rintro ρ W ⟨g2, g3, gp, hu, hba, hbb⟩
  obtain ⟨acc4, hK4⟩ : ∃ x, x = (acc3 && (a.share.toList == b.share.toList)) := ⟨_, rfl⟩
  rw [← hK4] at gp
  simp only [List.drop_succ_cons, List.drop_zero]
  refine opsS_cut 7 (CQ w ba bb a b 62 (acc4 && (a.access == b.access))) ?_ ?_
  · cases acc4 <;> simp [go_sem, CQ, g2, g3, gp, hba, hbb, hu, natBeq]
  clear g2 g3 gp hba hbb hu
  rintro ρ W ⟨g2, g3, gp, hu, hba, hbb⟩
  obtain ⟨acc5, hK5⟩ : ∃ x, x = (acc4 && (a.access == b.access)) := ⟨_, rfl⟩
  rw [← hK5] at gp
  simp only [List.drop_succ_cons, List.drop_zero]
  refine opsS_cut 7 (CQ w ba bb a b 69 (acc5 && (a.sharing == b.sharing))) ?_ ?_
  · cases acc5 <;> simp [go_sem, CQ, g2, g3, gp, hba, hbb, hu, natBeq]
  clear g2 g3 gp hba hbb hu
  rintro ρ W ⟨g2, g3, gp, hu, hba, hbb⟩
  obtain ⟨acc6, hK6⟩ : ∃ x, x = (acc5 && (a.sharing == b.sharing)) := ⟨_, rfl⟩
  rw [← hK6] at gp
  simp only [List.drop_succ_cons, List.drop_zero]
  refine opsS_cut 7 (CQ w ba bb a b 76 (acc6 && (a.way == b.way))) ?_ ?_
  · cases acc6 <;> simp [go_sem, CQ, g2, g3, gp, hba, hbb, hu, natBeq]
  clear g2 g3 gp hba hbb hu
  rintro ρ W ⟨g2, g3, gp, hu, hba, hbb⟩
  obtain ⟨acc7, hK7⟩ : ∃ x, x = (acc6 && (a.way == b.way)) := ⟨_, rfl⟩
  rw [← hK7] at gp
  simp only [List.drop_succ_cons, List.drop_zero]
  refine opsS_cut 7 (CQ w ba bb a b 83 (acc7 && (a.options == b.options))) ?_ ?_
  · cases acc7 <;> simp [go_sem, CQ, g2, g3, gp, hba, hbb, hu, natBeq]
  clear g2 g3 gp hba hbb hu
  rintro ρ W ⟨g2, g3, gp, hu, hba, hbb⟩
  obtain ⟨acc8, hK8⟩ : ∃ x, x = (acc7 && (a.options == b.options)) := ⟨_, rfl⟩
  rw [← hK8] at gp
  simp only [List.drop_succ_cons, List.drop_zero]
  refine opsS_cut 7 (CQ w ba bb a b 90 (acc8 && (a.level == b.level))) ?_ ?_
  · cases acc8 <;> simp [go_sem, CQ, g2, g3, gp, hba, hbb, hu, natBeq]
  clear g2 g3 gp hba hbb hu
  rintro ρ W ⟨g2, g3, gp, hu, hba, hbb⟩
  obtain ⟨acc9, hK9⟩ : ∃ x, x = (acc8 && (a.level == b.level)) := ⟨_, rfl⟩
  rw [← hK9] at gp
  simp only [List.drop_succ_cons, List.drop_zero]
  refine opsS_cut 7 (CQ w ba bb a b 97 (acc9 && (a.durable == b.durable))) ?_ ?_
  · cases acc9 <;> simp [go_sem, CQ, g2, g3, gp, hba, hbb, hu, natBeq]
  clear g2 g3 gp hba hbb hu
  rintro ρ W ⟨g2, g3, gp, hu, hba, hbb⟩
  obtain ⟨acc10, hK10⟩ : ∃ x, x = (acc9 && (a.durable == b.durable)) := ⟨_, rfl⟩
  rw [← hK10] at gp
  simp only [List.drop_succ_cons, List.drop_zero]
  refine opsS_cut 7 (CQ w ba bb a b 104 (acc10 && (a.file == b.file))) ?_ ?_
  · cases acc10 <;> simp [go_sem, CQ, g2, g3, gp, hba, hbb, hu, natBeq]
  clear g2 g3 gp hba hbb hu
  rintro ρ W ⟨g2, g3, gp, hu, hba, hbb⟩
  obtain ⟨acc11, hK11⟩ : ∃ x, x = (acc10 && (a.file == b.file)) := ⟨_, rfl⟩
  rw [← hK11] at gp
  simp only [List.drop_succ_cons, List.drop_zero]
  refine opsS_cut 7 (CQ w ba bb a b 111 (acc11 && (a.name.toList == b.name.toList))) ?_ ?_
  · cases acc11 <;> simp [go_sem, CQ, g2, g3, gp, hba, hbb, hu, natBeq]
  clear g2 g3 gp hba hbb hu
  rintro ρ W ⟨g2, g3, gp, hu, hba, hbb⟩
  obtain ⟨acc12, hK12⟩ : ∃ x, x = (acc11 && (a.name.toList == b.name.toList)) := ⟨_, rfl⟩
  rw [← hK12] at gp
  simp only [List.drop_succ_cons, List.drop_zero]
  refine opsS_cut 7 (CQ w ba bb a b 118 (acc12 && (a.at_ == b.at_))) ?_ ?_
  · cases acc12 <;> simp [go_sem, CQ, g2, g3, gp, hba, hbb, hu, natBeq]
  clear g2 g3 gp hba hbb hu
  rintro ρ W ⟨g2, g3, gp, hu, hba, hbb⟩
  obtain ⟨acc13, hK13⟩ : ∃ x, x = (acc12 && (a.at_ == b.at_)) := ⟨_, rfl⟩
  rw [← hK13] at gp
  simp only [List.drop_succ_cons, List.drop_zero]
  refine opsS_cut 7 (CQ w ba bb a b 125 (acc13 && (a.n == b.n))) ?_ ?_
  · cases acc13 <;> simp [go_sem, CQ, g2, g3, gp, hba, hbb, hu, natBeq]
  clear g2 g3 gp hba hbb hu
  rintro ρ W ⟨g2, g3, gp, hu, hba, hbb⟩
  obtain ⟨acc14, hK14⟩ : ∃ x, x = (acc13 && (a.n == b.n)) := ⟨_, rfl⟩
  rw [← hK14] at gp
  simp only [List.drop_succ_cons, List.drop_zero]
  refine opsS_cut 7 (CQ w ba bb a b 132 (acc14 && (a.most == b.most))) ?_ ?_
  · cases acc14 <;> simp [go_sem, CQ, g2, g3, gp, hba, hbb, hu, natBeq]
  clear g2 g3 gp hba hbb hu
  rintro ρ W ⟨g2, g3, gp, hu, hba, hbb⟩
  obtain ⟨acc15, hK15⟩ : ∃ x, x = (acc14 && (a.most == b.most)) := ⟨_, rfl⟩
  rw [← hK15] at gp
  simp only [List.drop_succ_cons, List.drop_zero]
  refine opsS_cut 7 (CQ w ba bb a b 139 (acc15 && (a.pattern.toList == b.pattern.toList))) ?_ ?_
  · cases acc15 <;> simp [go_sem, CQ, g2, g3, gp, hba, hbb, hu, natBeq]
  clear g2 g3 gp hba hbb hu
  rintro ρ W ⟨g2, g3, gp, hu, hba, hbb⟩
  obtain ⟨acc16, hK16⟩ : ∃ x, x = (acc15 && (a.pattern.toList == b.pattern.toList)) := ⟨_, rfl⟩
  rw [← hK16] at gp
  simp only [List.drop_succ_cons, List.drop_zero]
  refine opsS_cut 7 (CQ w ba bb a b 146 (acc16 && (a.after.toList == b.after.toList))) ?_ ?_
  · cases acc16 <;> simp [go_sem, CQ, g2, g3, gp, hba, hbb, hu, natBeq]
  clear g2 g3 gp hba hbb hu
  rintro ρ W ⟨g2, g3, gp, hu, hba, hbb⟩
  obtain ⟨acc17, hK17⟩ : ∃ x, x = (acc16 && (a.after.toList == b.after.toList)) := ⟨_, rfl⟩
  rw [← hK17] at gp
  simp only [List.drop_succ_cons, List.drop_zero]
  refine opsS_cut 7 (CQ w ba bb a b 153 (acc17 && (a.cls == b.cls))) ?_ ?_
  · cases acc17 <;> simp [go_sem, CQ, g2, g3, gp, hba, hbb, hu, natBeq]
  clear g2 g3 gp hba hbb hu
  rintro ρ W ⟨g2, g3, gp, hu, hba, hbb⟩
  obtain ⟨acc18, hK18⟩ : ∃ x, x = (acc17 && (a.cls == b.cls)) := ⟨_, rfl⟩
  rw [← hK18] at gp
  simp only [List.drop_succ_cons, List.drop_zero]
  refine opsS_cut 7 (CQ w ba bb a b 160 (acc18 && (a.size_ == b.size_))) ?_ ?_
  · cases acc18 <;> simp [go_sem, CQ, g2, g3, gp, hba, hbb, hu, natBeq]
  clear g2 g3 gp hba hbb hu
  rintro ρ W ⟨g2, g3, gp, hu, hba, hbb⟩
  obtain ⟨acc19, hK19⟩ : ∃ x, x = (acc18 && (a.size_ == b.size_)) := ⟨_, rfl⟩
  rw [← hK19] at gp
  simp only [List.drop_succ_cons, List.drop_zero]
  refine opsS_cut 7 (CQ w ba bb a b 167 (acc19 && (a.on == b.on))) ?_ ?_
  · cases acc19 <;> simp [go_sem, CQ, g2, g3, gp, hba, hbb, hu, natBeq]
  clear g2 g3 gp hba hbb hu
  rintro ρ W ⟨g2, g3, gp, hu, hba, hbb⟩
  obtain ⟨acc20, hK20⟩ : ∃ x, x = (acc19 && (a.on == b.on)) := ⟨_, rfl⟩
  rw [← hK20] at gp
  simp only [List.drop_succ_cons, List.drop_zero]
  simp [go_sem, gp]
  refine ⟨acc20, rfl, ?_, hu⟩
  constructor
  · intro h
    rw [hK20, Bool.and_eq_true] at h
    obtain ⟨h, e20⟩ := h
    rw [beq_iff_eq] at e20
    rw [hK19, Bool.and_eq_true] at h
    obtain ⟨h, e19⟩ := h
    rw [beq_iff_eq] at e19
    rw [hK18, Bool.and_eq_true] at h
    obtain ⟨h, e18⟩ := h
    rw [beq_iff_eq] at e18
    rw [hK17, Bool.and_eq_true] at h
    obtain ⟨h, e17⟩ := h
    rw [beq_iff_eq] at e17
    rw [str_inj] at e17
    rw [hK16, Bool.and_eq_true] at h
    obtain ⟨h, e16⟩ := h
    rw [beq_iff_eq] at e16
    rw [str_inj] at e16
    rw [hK15, Bool.and_eq_true] at h
    obtain ⟨h, e15⟩ := h
    rw [beq_iff_eq] at e15
    rw [hK14, Bool.and_eq_true] at h
    obtain ⟨h, e14⟩ := h
    rw [beq_iff_eq] at e14
    rw [hK13, Bool.and_eq_true] at h
    obtain ⟨h, e13⟩ := h
    rw [beq_iff_eq] at e13
    rw [hK12, Bool.and_eq_true] at h
    obtain ⟨h, e12⟩ := h
    rw [beq_iff_eq] at e12
    rw [str_inj] at e12
    rw [hK11, Bool.and_eq_true] at h
    obtain ⟨h, e11⟩ := h
    rw [beq_iff_eq] at e11
    rw [hK10, Bool.and_eq_true] at h
    obtain ⟨h, e10⟩ := h
    rw [beq_iff_eq] at e10
    rw [hK9, Bool.and_eq_true] at h
    obtain ⟨h, e9⟩ := h
    rw [beq_iff_eq] at e9
    rw [hK8, Bool.and_eq_true] at h
    obtain ⟨h, e8⟩ := h
    rw [beq_iff_eq] at e8
    rw [hK7, Bool.and_eq_true] at h
    obtain ⟨h, e7⟩ := h
    rw [beq_iff_eq] at e7
    rw [hK6, Bool.and_eq_true] at h
    obtain ⟨h, e6⟩ := h
    rw [beq_iff_eq] at e6
    rw [hK5, Bool.and_eq_true] at h
    obtain ⟨h, e5⟩ := h
    rw [beq_iff_eq] at e5
    rw [hK4, Bool.and_eq_true] at h
    obtain ⟨h, e4⟩ := h
    rw [beq_iff_eq] at e4
    rw [str_inj] at e4
    rw [hK3, Bool.and_eq_true] at h
    obtain ⟨h, e3⟩ := h
    rw [beq_iff_eq] at e3
    rw [str_inj] at e3
    rw [hK2, Bool.and_eq_true] at h
    obtain ⟨h, e2⟩ := h
    rw [beq_iff_eq] at e2
    replace e2 := Subtype.ext e2
    rw [hK1, Bool.and_eq_true] at h
    obtain ⟨h, e1⟩ := h
    rw [beq_iff_eq] at e1
    replace e1 := Subtype.ext e1
    replace h := of_decide_eq_true (hK0.symm.trans h)
    have hf : a.bare = b.bare := by unfold AskV.bare; rw [e1, e2, e3, e4, e5, e6, e7, e8, e9, e10, e11, e12, e13, e14, e15, e16, e17, e18, e19, e20]
    exact ⟨hf, h⟩
  · rintro ⟨hf, m0⟩
    unfold AskV.bare at hf
    injection hf with f_dialects f_guid f_proof f_user f_share f_access f_sharing f_way f_options f_level f_durable f_file f_name f_at_ f_n f_data f_locks f_most f_pattern f_after f_cls f_size_ f_on
    have h0 : acc0 = true := by rw [hK0, decide_eq_true m0]
    have h1 : acc1 = true := by rw [hK1, h0, f_guid]; simp
    have h2 : acc2 = true := by rw [hK2, h1, f_proof]; simp
    have h3 : acc3 = true := by rw [hK3, h2, f_user]; simp
    have h4 : acc4 = true := by rw [hK4, h3, f_share]; simp
    have h5 : acc5 = true := by rw [hK5, h4, f_access]; simp
    have h6 : acc6 = true := by rw [hK6, h5, f_sharing]; simp
    have h7 : acc7 = true := by rw [hK7, h6, f_way]; simp
    have h8 : acc8 = true := by rw [hK8, h7, f_options]; simp
    have h9 : acc9 = true := by rw [hK9, h8, f_level]; simp
    have h10 : acc10 = true := by rw [hK10, h9, f_durable]; simp
    have h11 : acc11 = true := by rw [hK11, h10, f_file]; simp
    have h12 : acc12 = true := by rw [hK12, h11, f_name]; simp
    have h13 : acc13 = true := by rw [hK13, h12, f_at_]; simp
    have h14 : acc14 = true := by rw [hK14, h13, f_n]; simp
    have h15 : acc15 = true := by rw [hK15, h14, f_most]; simp
    have h16 : acc16 = true := by rw [hK16, h15, f_pattern]; simp
    have h17 : acc17 = true := by rw [hK17, h16, f_after]; simp
    have h18 : acc18 = true := by rw [hK18, h17, f_cls]; simp
    have h19 : acc19 = true := by rw [hK19, h18, f_size_]; simp
    have h20 : acc20 = true := by rw [hK20, h19, f_on]; simp
    exact h20
set_option maxHeartbeats 4000000 in
theorem fileSameSay_any {a b : SayV} : CallP Tryz.prog 127 #[.agg a.cells, .agg b.cells] w (IffX w (SameNS a b)) := by
  refine call_den (args := [_, _]) Tryz.func127 rfl rfl (by simp [Tryz.ntmps127]) ?_
  have hu : Upd noB w ((w.alloc (.cells a.cells 39)).alloc (.cells b.cells 39)) := ((Upd.refl _ _).alloc _).alloc _
  have hba : ((w.alloc (.cells a.cells 39)).alloc (.cells b.cells 39)).heap[w.heap.size]? = some (.cells a.cells 39 (0, 0)) := by rw [heap_alloc, if_neg (by simp), heap_alloc, if_pos rfl]
  have hbb : ((w.alloc (.cells a.cells 39)).alloc (.cells b.cells 39)).heap[w.heap.size + 1]? = some (.cells b.cells 39 (0, 0)) := by rw [heap_alloc, if_pos (by simp)]
  obtain ⟨acc0, hK0⟩ : ∃ x, x = (a.dialect == b.dialect) := ⟨_, rfl⟩
  simp [go_sem]
  generalize w.heap.size + 1 = bb at *
  generalize w.heap.size = ba at *
  refine opsS_cut 0 (CZ w ba bb a b 10 acc0) ?_ ?_
  · simp only [List.take_zero, opsS_nil]
    exact ⟨by simp [go_sem], by simp [go_sem], by simp [go_sem, hK0, natBeq], hu, hba, hbb⟩
  clear hba hbb hu
  rintro ρ W ⟨g2, g3, gp, hu, hba, hbb⟩
  simp only [List.drop_zero]
  refine opsS_cut 6 (CZ w ba bb a b 16 (acc0 && (a.size_ == b.size_))) ?_ ?_
  · cases acc0 <;> simp [go_sem, CZ, g2, g3, gp, hba, hbb, hu, natBeq]
  clear g2 g3 gp hba hbb hu
  rintro ρ W ⟨g2, g3, gp, hu, hba, hbb⟩
  obtain ⟨acc1, hK1⟩ : ∃ x, x = (acc0 && (a.size_ == b.size_)) := ⟨_, rfl⟩
  rw [← hK1] at gp
  simp only [List.drop_succ_cons, List.drop_zero]
  refine opsS_cut 7 (CZ w ba bb a b 23 (acc1 && (a.challenge.1 == b.challenge.1))) ?_ ?_
  · cases acc1 <;> simp [go_sem, CZ, g2, g3, gp, hba, hbb, hu, natBeq]
  clear g2 g3 gp hba hbb hu
  rintro ρ W ⟨g2, g3, gp, hu, hba, hbb⟩
  obtain ⟨acc2, hK2⟩ : ∃ x, x = (acc1 && (a.challenge.1 == b.challenge.1)) := ⟨_, rfl⟩
  rw [← hK2] at gp
  simp only [List.drop_succ_cons, List.drop_zero]
  refine opsS_cut 7 (CZ w ba bb a b 30 (acc2 && (a.level == b.level))) ?_ ?_
  · cases acc2 <;> simp [go_sem, CZ, g2, g3, gp, hba, hbb, hu, natBeq]
  clear g2 g3 gp hba hbb hu
  rintro ρ W ⟨g2, g3, gp, hu, hba, hbb⟩
  obtain ⟨acc3, hK3⟩ : ∃ x, x = (acc2 && (a.level == b.level)) := ⟨_, rfl⟩
  rw [← hK3] at gp
  simp only [List.drop_succ_cons, List.drop_zero]
  refine opsS_cut 7 (CZ w ba bb a b 37 (acc3 && (a.durable == b.durable))) ?_ ?_
  · cases acc3 <;> simp [go_sem, CZ, g2, g3, gp, hba, hbb, hu, natBeq]
  clear g2 g3 gp hba hbb hu
  rintro ρ W ⟨g2, g3, gp, hu, hba, hbb⟩
  obtain ⟨acc4, hK4⟩ : ∃ x, x = (acc3 && (a.durable == b.durable)) := ⟨_, rfl⟩
  rw [← hK4] at gp
  simp only [List.drop_succ_cons, List.drop_zero]
  refine opsS_cut 7 (CZ w ba bb a b 44 (acc4 && (a.made == b.made))) ?_ ?_
  · cases acc4 <;> simp [go_sem, CZ, g2, g3, gp, hba, hbb, hu, natBeq]
  clear g2 g3 gp hba hbb hu
  rintro ρ W ⟨g2, g3, gp, hu, hba, hbb⟩
  obtain ⟨acc5, hK5⟩ : ∃ x, x = (acc4 && (a.made == b.made)) := ⟨_, rfl⟩
  rw [← hK5] at gp
  simp only [List.drop_succ_cons, List.drop_zero]
  refine opsS_cut 7 (CZ w ba bb a b 51 (acc5 && (a.file == b.file))) ?_ ?_
  · cases acc5 <;> simp [go_sem, CZ, g2, g3, gp, hba, hbb, hu, natBeq]
  clear g2 g3 gp hba hbb hu
  rintro ρ W ⟨g2, g3, gp, hu, hba, hbb⟩
  obtain ⟨acc6, hK6⟩ : ∃ x, x = (acc5 && (a.file == b.file)) := ⟨_, rfl⟩
  rw [← hK6] at gp
  simp only [List.drop_succ_cons, List.drop_zero]
  refine opsS_cut 7 (CZ w ba bb a b 58 (acc6 && (a.kind == b.kind))) ?_ ?_
  · cases acc6 <;> simp [go_sem, CZ, g2, g3, gp, hba, hbb, hu, natBeq]
  clear g2 g3 gp hba hbb hu
  rintro ρ W ⟨g2, g3, gp, hu, hba, hbb⟩
  obtain ⟨acc7, hK7⟩ : ∃ x, x = (acc6 && (a.kind == b.kind)) := ⟨_, rfl⟩
  rw [← hK7] at gp
  simp only [List.drop_succ_cons, List.drop_zero]
  refine opsS_cut 9 (CZ w ba bb a b 67 (acc7 && (decide (a.data.n = b.data.n)))) ?_ ?_
  · cases acc7 <;> simp [go_sem, CZ, g2, g3, gp, hba, hbb, hu, natBeq]
  clear g2 g3 gp hba hbb hu
  rintro ρ W ⟨g2, g3, gp, hu, hba, hbb⟩
  obtain ⟨acc8, hK8⟩ : ∃ x, x = (acc7 && (decide (a.data.n = b.data.n))) := ⟨_, rfl⟩
  rw [← hK8] at gp
  simp only [List.drop_succ_cons, List.drop_zero]
  refine opsS_cut 7 (CZ w ba bb a b 74 (acc8 && (a.n == b.n))) ?_ ?_
  · cases acc8 <;> simp [go_sem, CZ, g2, g3, gp, hba, hbb, hu, natBeq]
  clear g2 g3 gp hba hbb hu
  rintro ρ W ⟨g2, g3, gp, hu, hba, hbb⟩
  obtain ⟨acc9, hK9⟩ : ∃ x, x = (acc8 && (a.n == b.n)) := ⟨_, rfl⟩
  rw [← hK9] at gp
  simp only [List.drop_succ_cons, List.drop_zero]
  refine opsS_cut 9 (CZ w ba bb a b 83 (acc9 && (decide (a.entries.n = b.entries.n)))) ?_ ?_
  · cases acc9 <;> simp [go_sem, CZ, g2, g3, gp, hba, hbb, hu, natBeq]
  clear g2 g3 gp hba hbb hu
  rintro ρ W ⟨g2, g3, gp, hu, hba, hbb⟩
  obtain ⟨acc10, hK10⟩ : ∃ x, x = (acc9 && (decide (a.entries.n = b.entries.n))) := ⟨_, rfl⟩
  rw [← hK10] at gp
  simp only [List.drop_succ_cons, List.drop_zero]
  refine opsS_cut 7 (CZ w ba bb a b 90 (acc10 && (a.more == b.more))) ?_ ?_
  · cases acc10 <;> simp [go_sem, CZ, g2, g3, gp, hba, hbb, hu, natBeq]
  clear g2 g3 gp hba hbb hu
  rintro ρ W ⟨g2, g3, gp, hu, hba, hbb⟩
  obtain ⟨acc11, hK11⟩ : ∃ x, x = (acc10 && (a.more == b.more)) := ⟨_, rfl⟩
  rw [← hK11] at gp
  simp only [List.drop_succ_cons, List.drop_zero]
  refine opsS_cut 7 (CZ w ba bb a b 97 (acc11 && (a.gone == b.gone))) ?_ ?_
  · cases acc11 <;> simp [go_sem, CZ, g2, g3, gp, hba, hbb, hu, natBeq]
  clear g2 g3 gp hba hbb hu
  rintro ρ W ⟨g2, g3, gp, hu, hba, hbb⟩
  obtain ⟨acc12, hK12⟩ : ∃ x, x = (acc11 && (a.gone == b.gone)) := ⟨_, rfl⟩
  rw [← hK12] at gp
  simp only [List.drop_succ_cons, List.drop_zero]
  simp [go_sem, gp]
  refine ⟨acc12, rfl, ?_, hu⟩
  constructor
  · intro h
    rw [hK12, Bool.and_eq_true] at h
    obtain ⟨h, e12⟩ := h
    rw [beq_iff_eq] at e12
    rw [hK11, Bool.and_eq_true] at h
    obtain ⟨h, e11⟩ := h
    rw [beq_iff_eq] at e11
    rw [hK10, Bool.and_eq_true] at h
    obtain ⟨h, e10⟩ := h
    replace e10 := of_decide_eq_true e10
    rw [hK9, Bool.and_eq_true] at h
    obtain ⟨h, e9⟩ := h
    rw [beq_iff_eq] at e9
    rw [hK8, Bool.and_eq_true] at h
    obtain ⟨h, e8⟩ := h
    replace e8 := of_decide_eq_true e8
    rw [hK7, Bool.and_eq_true] at h
    obtain ⟨h, e7⟩ := h
    rw [beq_iff_eq] at e7
    rw [hK6, Bool.and_eq_true] at h
    obtain ⟨h, e6⟩ := h
    rw [beq_iff_eq] at e6
    rw [hK5, Bool.and_eq_true] at h
    obtain ⟨h, e5⟩ := h
    rw [beq_iff_eq] at e5
    rw [hK4, Bool.and_eq_true] at h
    obtain ⟨h, e4⟩ := h
    rw [beq_iff_eq] at e4
    rw [hK3, Bool.and_eq_true] at h
    obtain ⟨h, e3⟩ := h
    rw [beq_iff_eq] at e3
    rw [hK2, Bool.and_eq_true] at h
    obtain ⟨h, e2⟩ := h
    rw [beq_iff_eq] at e2
    replace e2 := Subtype.ext e2
    rw [hK1, Bool.and_eq_true] at h
    obtain ⟨h, e1⟩ := h
    rw [beq_iff_eq] at e1
    rw [hK0, beq_iff_eq] at h
    have hf : a.bare = b.bare := by unfold SayV.bare; rw [h, e1, e2, e3, e4, e5, e6, e7, e9, e11, e12]
    exact ⟨hf, e8, e10⟩
  · rintro ⟨hf, m8, m10⟩
    unfold SayV.bare at hf
    injection hf with f_dialect f_size_ f_challenge f_level f_durable f_made f_file f_kind f_data f_n f_entries f_more f_gone
    have h0 : acc0 = true := by rw [hK0, f_dialect]; simp
    have h1 : acc1 = true := by rw [hK1, h0, f_size_]; simp
    have h2 : acc2 = true := by rw [hK2, h1, f_challenge]; simp
    have h3 : acc3 = true := by rw [hK3, h2, f_level]; simp
    have h4 : acc4 = true := by rw [hK4, h3, f_durable]; simp
    have h5 : acc5 = true := by rw [hK5, h4, f_made]; simp
    have h6 : acc6 = true := by rw [hK6, h5, f_file]; simp
    have h7 : acc7 = true := by rw [hK7, h6, f_kind]; simp
    have h8 : acc8 = true := by rw [hK8, h7, decide_eq_true m8]; rfl
    have h9 : acc9 = true := by rw [hK9, h8, f_n]; simp
    have h10 : acc10 = true := by rw [hK10, h9, decide_eq_true m10]; rfl
    have h11 : acc11 = true := by rw [hK11, h10, f_more]; simp
    have h12 : acc12 = true := by rw [hK12, h11, f_gone]; simp
    exact h12
set_option maxHeartbeats 4000000 in
theorem infoSameSay_any {a b : SayV} (la : a.lens) (lb : b.lens) : CallP Tryz.prog 142 #[.agg a.cells, .agg b.cells] w (IffX w (SameIS a b)) := by
  refine call_den (args := [_, _]) Tryz.func142 rfl rfl (by simp [Tryz.ntmps142]) ?_
  have hu : Upd noB w ((w.alloc (.cells a.cells 39)).alloc (.cells b.cells 39)) := ((Upd.refl _ _).alloc _).alloc _
  have hba : ((w.alloc (.cells a.cells 39)).alloc (.cells b.cells 39)).heap[w.heap.size]? = some (.cells a.cells 39 (0, 0)) := by rw [heap_alloc, if_neg (by simp), heap_alloc, if_pos rfl]
  have hbb : ((w.alloc (.cells a.cells 39)).alloc (.cells b.cells 39)).heap[w.heap.size + 1]? = some (.cells b.cells 39 (0, 0)) := by rw [heap_alloc, if_pos (by simp)]
  have hw : IntKind.i64.wrap ((a.data.n : Int) + b.data.n) = (a.data.n : Int) + b.data.n := by have := la.1; have := lb.1; rw [wrap64_id (by omega) (by omega)]
  have hsum : ((a.data.n : Int) + b.data.n == 0) = decide (a.data.n + b.data.n = 0) := by rw [Bool.eq_iff_iff]; simp; omega
  obtain ⟨acc0, hK0⟩ : ∃ x, x = (a.dialect == b.dialect) := ⟨_, rfl⟩
  simp [go_sem]
  generalize w.heap.size + 1 = bb at *
  generalize w.heap.size = ba at *
  refine opsS_cut 0 (CZ w ba bb a b 10 acc0) ?_ ?_
  · simp only [List.take_zero, opsS_nil]
    exact ⟨by simp [go_sem], by simp [go_sem], by simp [go_sem, hK0, natBeq], hu, hba, hbb⟩
  clear hba hbb hu
  rintro ρ W ⟨g2, g3, gp, hu, hba, hbb⟩
  simp only [List.drop_zero]
  refine opsS_cut 6 (CZ w ba bb a b 16 (acc0 && (a.size_ == b.size_))) ?_ ?_
  · cases acc0 <;> simp [go_sem, CZ, g2, g3, gp, hba, hbb, hu, natBeq]
  clear g2 g3 gp hba hbb hu
  rintro ρ W ⟨g2, g3, gp, hu, hba, hbb⟩
  obtain ⟨acc1, hK1⟩ : ∃ x, x = (acc0 && (a.size_ == b.size_)) := ⟨_, rfl⟩
  rw [← hK1] at gp
  simp only [List.drop_succ_cons, List.drop_zero]
  refine opsS_cut 7 (CZ w ba bb a b 23 (acc1 && (a.challenge.1 == b.challenge.1))) ?_ ?_
  · cases acc1 <;> simp [go_sem, CZ, g2, g3, gp, hba, hbb, hu, natBeq]
  clear g2 g3 gp hba hbb hu
  rintro ρ W ⟨g2, g3, gp, hu, hba, hbb⟩
  obtain ⟨acc2, hK2⟩ : ∃ x, x = (acc1 && (a.challenge.1 == b.challenge.1)) := ⟨_, rfl⟩
  rw [← hK2] at gp
  simp only [List.drop_succ_cons, List.drop_zero]
  refine opsS_cut 7 (CZ w ba bb a b 30 (acc2 && (a.level == b.level))) ?_ ?_
  · cases acc2 <;> simp [go_sem, CZ, g2, g3, gp, hba, hbb, hu, natBeq]
  clear g2 g3 gp hba hbb hu
  rintro ρ W ⟨g2, g3, gp, hu, hba, hbb⟩
  obtain ⟨acc3, hK3⟩ : ∃ x, x = (acc2 && (a.level == b.level)) := ⟨_, rfl⟩
  rw [← hK3] at gp
  simp only [List.drop_succ_cons, List.drop_zero]
  refine opsS_cut 7 (CZ w ba bb a b 37 (acc3 && (a.durable == b.durable))) ?_ ?_
  · cases acc3 <;> simp [go_sem, CZ, g2, g3, gp, hba, hbb, hu, natBeq]
  clear g2 g3 gp hba hbb hu
  rintro ρ W ⟨g2, g3, gp, hu, hba, hbb⟩
  obtain ⟨acc4, hK4⟩ : ∃ x, x = (acc3 && (a.durable == b.durable)) := ⟨_, rfl⟩
  rw [← hK4] at gp
  simp only [List.drop_succ_cons, List.drop_zero]
  refine opsS_cut 7 (CZ w ba bb a b 44 (acc4 && (a.made == b.made))) ?_ ?_
  · cases acc4 <;> simp [go_sem, CZ, g2, g3, gp, hba, hbb, hu, natBeq]
  clear g2 g3 gp hba hbb hu
  rintro ρ W ⟨g2, g3, gp, hu, hba, hbb⟩
  obtain ⟨acc5, hK5⟩ : ∃ x, x = (acc4 && (a.made == b.made)) := ⟨_, rfl⟩
  rw [← hK5] at gp
  simp only [List.drop_succ_cons, List.drop_zero]
  refine opsS_cut 7 (CZ w ba bb a b 51 (acc5 && (a.file == b.file))) ?_ ?_
  · cases acc5 <;> simp [go_sem, CZ, g2, g3, gp, hba, hbb, hu, natBeq]
  clear g2 g3 gp hba hbb hu
  rintro ρ W ⟨g2, g3, gp, hu, hba, hbb⟩
  obtain ⟨acc6, hK6⟩ : ∃ x, x = (acc5 && (a.file == b.file)) := ⟨_, rfl⟩
  rw [← hK6] at gp
  simp only [List.drop_succ_cons, List.drop_zero]
  refine opsS_cut 7 (CZ w ba bb a b 58 (acc6 && (a.kind == b.kind))) ?_ ?_
  · cases acc6 <;> simp [go_sem, CZ, g2, g3, gp, hba, hbb, hu, natBeq]
  clear g2 g3 gp hba hbb hu
  rintro ρ W ⟨g2, g3, gp, hu, hba, hbb⟩
  obtain ⟨acc7, hK7⟩ : ∃ x, x = (acc6 && (a.kind == b.kind)) := ⟨_, rfl⟩
  rw [← hK7] at gp
  simp only [List.drop_succ_cons, List.drop_zero]
  refine opsS_cut 10 (CZ w ba bb a b 68 (acc7 && (decide (a.data.n + b.data.n = 0)))) ?_ ?_
  · cases acc7 <;> simp [go_sem, CZ, g2, g3, gp, hba, hbb, hu, hw, hsum]
  clear g2 g3 gp hba hbb hu
  rintro ρ W ⟨g2, g3, gp, hu, hba, hbb⟩
  obtain ⟨acc8, hK8⟩ : ∃ x, x = (acc7 && (decide (a.data.n + b.data.n = 0))) := ⟨_, rfl⟩
  rw [← hK8] at gp
  simp only [List.drop_succ_cons, List.drop_zero]
  refine opsS_cut 7 (CZ w ba bb a b 75 (acc8 && (a.n == b.n))) ?_ ?_
  · cases acc8 <;> simp [go_sem, CZ, g2, g3, gp, hba, hbb, hu, natBeq]
  clear g2 g3 gp hba hbb hu
  rintro ρ W ⟨g2, g3, gp, hu, hba, hbb⟩
  obtain ⟨acc9, hK9⟩ : ∃ x, x = (acc8 && (a.n == b.n)) := ⟨_, rfl⟩
  rw [← hK9] at gp
  simp only [List.drop_succ_cons, List.drop_zero]
  refine opsS_cut 9 (CZ w ba bb a b 84 (acc9 && (decide (a.entries.n = b.entries.n)))) ?_ ?_
  · cases acc9 <;> simp [go_sem, CZ, g2, g3, gp, hba, hbb, hu, natBeq]
  clear g2 g3 gp hba hbb hu
  rintro ρ W ⟨g2, g3, gp, hu, hba, hbb⟩
  obtain ⟨acc10, hK10⟩ : ∃ x, x = (acc9 && (decide (a.entries.n = b.entries.n))) := ⟨_, rfl⟩
  rw [← hK10] at gp
  simp only [List.drop_succ_cons, List.drop_zero]
  refine opsS_cut 7 (CZ w ba bb a b 91 (acc10 && (a.more == b.more))) ?_ ?_
  · cases acc10 <;> simp [go_sem, CZ, g2, g3, gp, hba, hbb, hu, natBeq]
  clear g2 g3 gp hba hbb hu
  rintro ρ W ⟨g2, g3, gp, hu, hba, hbb⟩
  obtain ⟨acc11, hK11⟩ : ∃ x, x = (acc10 && (a.more == b.more)) := ⟨_, rfl⟩
  rw [← hK11] at gp
  simp only [List.drop_succ_cons, List.drop_zero]
  refine opsS_cut 7 (CZ w ba bb a b 98 (acc11 && (a.gone == b.gone))) ?_ ?_
  · cases acc11 <;> simp [go_sem, CZ, g2, g3, gp, hba, hbb, hu, natBeq]
  clear g2 g3 gp hba hbb hu
  rintro ρ W ⟨g2, g3, gp, hu, hba, hbb⟩
  obtain ⟨acc12, hK12⟩ : ∃ x, x = (acc11 && (a.gone == b.gone)) := ⟨_, rfl⟩
  rw [← hK12] at gp
  simp only [List.drop_succ_cons, List.drop_zero]
  simp [go_sem, gp]
  refine ⟨acc12, rfl, ?_, hu⟩
  constructor
  · intro h
    rw [hK12, Bool.and_eq_true] at h
    obtain ⟨h, e12⟩ := h
    rw [beq_iff_eq] at e12
    rw [hK11, Bool.and_eq_true] at h
    obtain ⟨h, e11⟩ := h
    rw [beq_iff_eq] at e11
    rw [hK10, Bool.and_eq_true] at h
    obtain ⟨h, e10⟩ := h
    replace e10 := of_decide_eq_true e10
    rw [hK9, Bool.and_eq_true] at h
    obtain ⟨h, e9⟩ := h
    rw [beq_iff_eq] at e9
    rw [hK8, Bool.and_eq_true] at h
    obtain ⟨h, e8⟩ := h
    replace e8 := of_decide_eq_true e8
    rw [hK7, Bool.and_eq_true] at h
    obtain ⟨h, e7⟩ := h
    rw [beq_iff_eq] at e7
    rw [hK6, Bool.and_eq_true] at h
    obtain ⟨h, e6⟩ := h
    rw [beq_iff_eq] at e6
    rw [hK5, Bool.and_eq_true] at h
    obtain ⟨h, e5⟩ := h
    rw [beq_iff_eq] at e5
    rw [hK4, Bool.and_eq_true] at h
    obtain ⟨h, e4⟩ := h
    rw [beq_iff_eq] at e4
    rw [hK3, Bool.and_eq_true] at h
    obtain ⟨h, e3⟩ := h
    rw [beq_iff_eq] at e3
    rw [hK2, Bool.and_eq_true] at h
    obtain ⟨h, e2⟩ := h
    rw [beq_iff_eq] at e2
    replace e2 := Subtype.ext e2
    rw [hK1, Bool.and_eq_true] at h
    obtain ⟨h, e1⟩ := h
    rw [beq_iff_eq] at e1
    rw [hK0, beq_iff_eq] at h
    have hf : a.bare = b.bare := by unfold SayV.bare; rw [h, e1, e2, e3, e4, e5, e6, e7, e9, e11, e12]
    exact ⟨hf, e8, e10⟩
  · rintro ⟨hf, m8, m10⟩
    unfold SayV.bare at hf
    injection hf with f_dialect f_size_ f_challenge f_level f_durable f_made f_file f_kind f_data f_n f_entries f_more f_gone
    have h0 : acc0 = true := by rw [hK0, f_dialect]; simp
    have h1 : acc1 = true := by rw [hK1, h0, f_size_]; simp
    have h2 : acc2 = true := by rw [hK2, h1, f_challenge]; simp
    have h3 : acc3 = true := by rw [hK3, h2, f_level]; simp
    have h4 : acc4 = true := by rw [hK4, h3, f_durable]; simp
    have h5 : acc5 = true := by rw [hK5, h4, f_made]; simp
    have h6 : acc6 = true := by rw [hK6, h5, f_file]; simp
    have h7 : acc7 = true := by rw [hK7, h6, f_kind]; simp
    have h8 : acc8 = true := by rw [hK8, h7, decide_eq_true m8]; rfl
    have h9 : acc9 = true := by rw [hK9, h8, f_n]; simp
    have h10 : acc10 = true := by rw [hK10, h9, decide_eq_true m10]; rfl
    have h11 : acc11 = true := by rw [hK11, h10, f_more]; simp
    have h12 : acc12 = true := by rw [hK12, h11, f_gone]; simp
    exact h12
end Go.Proofs.YtinfdomlpbikaaaGreatDoor
namespace Go.Proofs.YtinfdomlpbikaaaGreatDoor
open Go Go.Eng
set_option linter.unusedSimpArgs false
set_option linter.unusedVariables false
--BEGIN
/-! ### no error is 0 -/
def Codec.nz {α : Type} (C : Codec α) : Prop := ∀ l, C.get l ≠ .error 0
theorem num_nz (k : Nat) : (numC k).nz := by
  intro l h
  simp only [numC] at h
  split at h <;> simp at h
section
variable {α β : Type} {C : Codec α}
theorem chk_nz {p : α → Bool} {e : Int} (hC : C.nz) (he : e ≠ 0) : (chkC C p e).nz := by
  intro l h
  simp only [chkC] at h
  split at h
  · split at h
    · cases h
    · injection h with h; exact he h
  · rename_i e' hg
    injection h with h
    subst h
    exact hC l hg
theorem seq_nz {D : α → Codec β} (hC : C.nz) (hD : ∀ x, (D x).nz) : (seqC C D).nz := by
  intro l h
  simp only [seqC] at h
  split at h
  · rename_i e' hg
    injection h with h
    subst h
    exact hC l hg
  · rename_i x r hg
    split at h
    · rename_i e' hg'
      injection h with h
      subst h
      exact hD x r hg'
    · cases h
theorem list_nz (hC : C.nz) : ∀ n, (listC C n).nz
  | 0 => by intro l h; cases h
  | n + 1 => by
    intro l h
    simp only [listC] at h
    split at h
    · rename_i e' hg
      injection h with h
      subst h
      exact seq_nz hC (fun _ => list_nz hC n) l hg
    · cases h
theorem iso_nz {f : α → β} {g : β → α} {hf : ∀ b, f (g b) = b} {hg : ∀ l a r, C.get l = .ok (a, r) → g (f a) = a} (hC : C.nz) : (isoC C f g hf hg).nz := by
  intro l h
  simp only [isoC] at h
  split at h
  · rename_i e' hg
    injection h with h
    subst h
    exact hC l hg
  · cases h
theorem sub_nz {f : α → β} {g : β → α} {p : β → Bool} {hf : ∀ b, p b = true → f (g b) = b} {hg : ∀ l a r, C.get l = .ok (a, r) → p (f a) = true ∧ g (f a) = a} (hC : C.nz) : (subC C f g p hf hg).nz := by
  intro l h
  simp only [subC] at h
  split at h
  · rename_i e' hg
    injection h with h
    subst h
    exact hC l hg
  · cases h
end
theorem most_nz (k : Nat) (m e : Int) (he : e ≠ 0) : (mostC k m e).nz := chk_nz (num_nz k) he
theorem zero_nz (k : Nat) : (zeroC k).nz := iso_nz (chk_nz (num_nz k) (by decide))
theorem bool_nz (k : Nat) : (boolC k).nz := iso_nz (most_nz k 1 5 (by decide))
theorem bytes_nz (k : Nat) : (bytesC k).nz := by
  intro l h
  simp only [bytesC] at h
  split at h <;> simp at h
theorem arr_nz (k : Nat) : (arrC k).nz := by
  intro l h
  simp only [arrC] at h
  split at h <;> simp at h
theorem row_nz (l : List UInt8) (a m : Nat) : rowGet l a m ≠ .error 0 := by
  unfold rowGet
  intro h
  split at h
  · simp at h
  · split at h
    · simp at h
    · split at h <;> simp at h
theorem text_nz : textC.nz := by
  intro l h
  simp only [textC] at h
  split at h
  · rename_i e hg
    injection h with h
    subst h
    unfold textGet at hg
    split at hg
    · rename_i e' hr
      injection hg with hg
      subst hg
      exact row_nz _ _ _ hr
    · split at hg <;> simp at hg
  · cases h
theorem data_nz : dataC.nz := seq_nz (most_nz _ _ _ (by decide)) fun _ => bytes_nz _
theorem lock_nz : lockC.nz := seq_nz (num_nz _) fun _ => seq_nz (num_nz _) fun _ => seq_nz (num_nz _) fun _ => zero_nz _
theorem ent_nz : entC.nz := seq_nz (most_nz _ _ _ (by decide)) fun _ => seq_nz (zero_nz _) fun _ => seq_nz (most_nz _ _ _ (by decide)) fun _ => text_nz
theorem cls_nz (c : Int) : (clsC c).nz := by
  unfold clsC
  split
  · exact sub_nz (num_nz _)
  · split
    · exact sub_nz (bool_nz _)
    · exact sub_nz (seq_nz (bool_nz _) fun _ => text_nz)
theorem fmt_nz {S : Type} (F : Fmt S) (h : F.C.nz) (l : List UInt8) : F.get l ≠ .error 0 := by
  intro hg
  unfold Fmt.get at hg
  split at hg
  · rename_i e he
    injection hg with hg
    subst hg
    exact h l he
  · cases hg
  · simp at hg
set_option maxHeartbeats 4000000 in
theorem ask_nz {c : Int} {F : Fmt AskS} (h : askF c = some F) (l : List UInt8) : F.get l ≠ .error 0 := by
  refine fmt_nz F ?_ l
  unfold askF at h
  split at h; · injection h with h; subst h; exact seq_nz (most_nz _ _ _ (by decide)) fun _ => seq_nz (list_nz (num_nz _) _) fun _ => arr_nz _
  split at h; · injection h with h; subst h; exact seq_nz (arr_nz _) fun _ => text_nz
  split at h; · injection h with h; subst h; exact text_nz
  split at h; · injection h with h; subst h; exact zero_nz _
  split at h; · injection h with h; subst h; exact seq_nz (num_nz _) fun _ => seq_nz (num_nz _) fun _ => seq_nz (num_nz _) fun _ => seq_nz (num_nz _) fun _ => seq_nz (num_nz _) fun _ => seq_nz (num_nz _) fun _ => seq_nz (zero_nz _) fun _ => seq_nz (num_nz _) fun _ => text_nz
  split at h; · injection h with h; subst h; exact num_nz _
  split at h; · injection h with h; subst h; exact seq_nz (num_nz _) fun _ => seq_nz (num_nz _) fun _ => num_nz _
  split at h; · injection h with h; subst h; exact seq_nz (num_nz _) fun _ => seq_nz (num_nz _) fun _ => data_nz
  split at h; · injection h with h; subst h; exact seq_nz (num_nz _) fun _ => seq_nz (most_nz _ _ _ (by decide)) fun _ => seq_nz (zero_nz _) fun _ => list_nz lock_nz _
  split at h; · injection h with h; subst h; exact seq_nz (num_nz _) fun _ => seq_nz (num_nz _) fun _ => seq_nz (zero_nz _) fun _ => seq_nz text_nz fun _ => text_nz
  split at h; · injection h with h; subst h; exact seq_nz (num_nz _) fun _ => seq_nz (chk_nz (num_nz _) (by decide)) cls_nz
  split at h; · injection h with h; subst h; exact seq_nz (num_nz _) fun _ => seq_nz (num_nz _) fun _ => seq_nz (zero_nz _) fun _ => zero_nz _
  cases h
set_option maxHeartbeats 4000000 in
theorem say_nz {c : Int} {F : Fmt SayS} (h : sayF c = some F) (l : List UInt8) : F.get l ≠ .error 0 := by
  refine fmt_nz F ?_ l
  unfold sayF at h
  split at h; · injection h with h; subst h; exact seq_nz (num_nz _) fun _ => seq_nz (zero_nz _) fun _ => seq_nz (num_nz _) fun _ => arr_nz _
  split at h; · injection h with h; subst h; exact zero_nz _
  split at h; · injection h with h; subst h; exact seq_nz (num_nz _) fun _ => seq_nz (num_nz _) fun _ => seq_nz (most_nz _ _ _ (by decide)) fun _ => seq_nz (num_nz _) fun _ => seq_nz (num_nz _) fun _ => seq_nz (most_nz _ _ _ (by decide)) fun _ => zero_nz _
  split at h; · injection h with h; subst h; exact data_nz
  split at h; · injection h with h; subst h; exact num_nz _
  split at h; · injection h with h; subst h; exact seq_nz (most_nz _ _ _ (by decide)) fun _ => seq_nz (bool_nz _) fun _ => list_nz ent_nz _
  split at h; · injection h with h; subst h; exact seq_nz (num_nz _) fun _ => seq_nz (most_nz _ _ _ (by decide)) fun _ => bool_nz _
  split at h; · injection h with h; subst h; exact seq_nz (num_nz _) fun _ => seq_nz (num_nz _) fun _ => seq_nz (zero_nz _) fun _ => zero_nz _
  cases h
theorem body_nz (h : HeadV) (l : List UInt8) : bodyGet h l ≠ .error 0 := by
  unfold bodyGet
  intro e
  split at e
  · split at e
    · split at e
      · simp at e
      · split at e <;> simp at e
    · split at e
      · rename_i F hF
        split at e
        · cases e
        · rename_i x hx
          injection e with e
          subst e
          exact say_nz hF l hx
      · simp at e
  · split at e
    · rename_i F hF
      split at e
      · cases e
      · rename_i x hx
        injection e with e
        subst e
        exact ask_nz hF l hx
    · simp at e
/-! ### lists are short -/
def AskS.small (A : AskS) : Prop := A.dia.length ≤ 16 ∧ A.dat.length ≤ 32768 ∧ A.lok.length ≤ 16
def SayS.small (A : SayS) : Prop := A.dat.length ≤ 32768 ∧ A.ent.length ≤ 64
/-! ### where a body ends -/
theorem find_zero {h : HeadV} {b : List UInt8} {m : MsgS} (hg : bodyGet h b = .ok m) (f : Nat) : findN h b (f + 1) 0 = some m := by
  unfold findN
  rw [Nat.sub_zero, List.drop_length, List.take_length, if_pos ⟨Nat.zero_le _, rfl⟩, hg]
theorem find_first {h : HeadV} {b : List UInt8} {e : Int} (hg : bodyGet h b = .error e) (f : Nat) : findN h b (f + 1) 0 = findN h b f 1 := by
  conv => lhs; unfold findN
  rw [Nat.sub_zero, List.drop_length, List.take_length, if_pos ⟨Nat.zero_le _, rfl⟩, hg]
theorem find_past {h : HeadV} {b : List UInt8} : ∀ f n, b.length < n → findN h b f n = none
  | 0, _, _ => rfl
  | f + 1, n, hn => by
    unfold findN
    rw [if_neg (by omega)]
    exact find_past f (n + 1) (by omega)
theorem drop_back (b : List UInt8) (n : Nat) (hn : n < b.length) : b.drop (b.length - (n + 1)) = b[b.length - (n + 1)]'(by omega) :: b.drop (b.length - n) := by
  rw [List.drop_eq_getElem_cons (by omega)]
  congr 2
  omega
theorem zeros_back (b : List UInt8) (n : Nat) (hn : n < b.length) : zeros (b.drop (b.length - (n + 1))) = (b[b.length - (n + 1)]'(by omega) == 0 && zeros (b.drop (b.length - n))) := by
  rw [drop_back b n hn]
  rfl
theorem find_stop {h : HeadV} {b : List UInt8} : ∀ f n, n ≤ b.length → zeros (b.drop (b.length - n)) = false → findN h b f n = none
  | 0, _, _, _ => rfl
  | f + 1, n, hn, hz => by
    unfold findN
    rw [if_neg (by rw [hz]; simp)]
    by_cases hl : n < b.length
    · exact find_stop f (n + 1) (by omega) (by rw [zeros_back b n hl, hz, Bool.and_false])
    · exact find_past f (n + 1) (by omega)
theorem find_hit {h : HeadV} {b : List UInt8} {m : MsgS} {f n : Nat} (hn : n ≤ b.length) (hz : zeros (b.drop (b.length - n)) = true) (hg : bodyGet h (b.take (b.length - n)) = .ok m) : findN h b (f + 1) n = some m := by
  unfold findN
  rw [if_pos ⟨hn, hz⟩, hg]
theorem find_next {h : HeadV} {b : List UInt8} {e : Int} {f n : Nat} (hn : n ≤ b.length) (hz : zeros (b.drop (b.length - n)) = true) (hg : bodyGet h (b.take (b.length - n)) = .error e) : findN h b (f + 1) n = findN h b f (n + 1) := by
  conv => lhs; unfold findN
  rw [if_pos ⟨hn, hz⟩, hg]
end Go.Proofs.YtinfdomlpbikaaaGreatDoor
namespace Go.Proofs.YtinfdomlpbikaaaGreatDoor
open Go.Eng
set_option linter.unusedSimpArgs false
set_option linter.unusedVariables false
set_option maxRecDepth 100000
variable {w w0 : World}
def bareM (h : HeadV) : MsgV := ⟨h, zeroA, zeroS⟩
set_option maxHeartbeats 4000000 in
theorem put_bare (h : HeadV) (ok : h.ok) (hm : mayL h = true) (hc : h.command = 13) (hn : h.next = 0) (hr : hasF h.flags 1 → h.status ≠ 0) (w : World) :
    CallP Tryz.prog 12 #[.agg (bareM h).cells] w (fun r w' => ∃ v, r = .tuple #[v, .int .i64 0] ∧ Upd noB w w' ∧ OwnB w' w.heap.size v (headB h ++ [0, 0, 0, 0])) := by
  refine call_den (args := [_]) Tryz.func12 rfl rfl (by simp [Tryz.ntmps12]) ?_
  simp [go_sem, bareM]
  refine gen_call ?_
  intro W hW
  have hu : Upd noB w W := by rw [hW]; exact (by repeat (first | exact Upd.refl _ _ | refine Upd.alloc ?_ _ | refine Upd.drew ?_ | refine Upd.drewN ?_ _ | refine Upd.setB ?_ _ _ (fun h => absurd h (by omega))))
  have hb : MsgAt W (w.heap.size + 1) (bareM h) := by unfold MsgAt; rw [hW, heap_alloc, if_pos (by simp)]; rfl
  clear hW
  refine CallP.mono (headPut_any h ok W) ?_
  rintro r W2 ⟨u2, hres⟩
  rw [if_pos hm] at hres
  obtain ⟨v, rfl, own⟩ := hres
  have hb2 : MsgAt W2 (w.heap.size + 1) (bareM h) := u2.get hb (by simp [noB])
  have hf := ok.flags
  have fin : ∀ (k : Value → World → Prop) (W4 : World), Upd noB W2 W4 → MsgAt W4 (w.heap.size + 1) (bareM h) → (∀ v2 W5, Upd noB W4 W5 → OwnB W5 W4.heap.size v2 [0, 0, 0, 0] → k (.tuple #[v2, .int .i64 0]) W5) → CallP Tryz.prog 38 #[.pointer (some ⟨w.heap.size + 1, 0, none⟩)] W4 k := by
    intro k W4 u4 hb4 hk
    by_cases hrep : hasF h.flags 1
    · refine CallP.mono (body_fault (m := bareM h) hb4 hf hc hrep (hr hrep)) ?_
      rintro r W5 ⟨v2, rfl, u5, own5⟩
      exact hk v2 W5 u5 own5
    · refine CallP.mono (body_echo (m := bareM h) hb4 hf hc hrep rfl) ?_
      rintro r W5 ⟨v2, rfl, u5, own5⟩
      exact hk v2 W5 u5 own5
  simp [go_sem]
  refine CallP.mono (msgReply_any hb2 hf) ?_
  rintro r W3 ⟨rfl, rfl⟩
  have hq : (bareM h).head.flags = h.flags := rfl
  rw [hq]
  have hb2' := hb2
  unfold MsgAt at hb2'
  by_cases hrep : hasF h.flags 1
  · have hst : h.status ≠ 0 := hr hrep
    simp [go_sem, hrep, hb2']
    refine CallP.mono (none_zero _) ?_
    rintro r W4 ⟨rfl, u4⟩
    have hb4 : MsgAt W4 (w.heap.size + 1) (bareM h) := u4.get hb2 (by simp [noB])
    simp [go_sem]
    refine CallP.mono (msgReply_any hb4 hf) ?_
    rintro r W5 ⟨rfl, hW5⟩
    rw [hW5]; clear hW5; clear W5
    rw [hq]
    simp [go_sem, hrep]
    refine CallP.mono (msgFault_any hb4 hf) ?_
    rintro r W5 ⟨rfl, hW5⟩
    rw [hW5]; clear hW5; clear W5
    rw [hq]
    have hq2 : (bareM h).head.status = h.status := rfl
    rw [hq2]
    have hb4' := hb4
    unfold MsgAt at hb4'
    simp [go_sem, hrep, hst, hb4']
    refine CallP.mono (silent_zero _) ?_
    rintro r W6 ⟨rfl, u6⟩
    have hb6 : MsgAt W6 (w.heap.size + 1) (bareM h) := u6.get hb4 (by simp [noB])
    have u26 : Upd noB W3 W6 := u4.trans u6
    simp [go_sem]
    refine fin _ W6 u26 hb6 ?_
    intro v2 W7 u7 own7
    have own' := own_keep0 (own_keep0 own u26) u7
    have u27 := u26.trans u7
    have hb7 : MsgAt W7 (w.heap.size + 1) (bareM h) := u7.get hb6 (by simp [noB])
    obtain ⟨v3, W8, hrun, own8, hg8⟩ := OwnB.append (l := headB h) own' own7.at 31 (by rw [headB_len]; decide) ((u2.trans u27).size)
    have u8 : Upd noB W W8 := upd_append own' (u2.trans u27) (Nat.le_refl _) hg8
    have hb8 : W8.heap[w.heap.size + 1]? = some (.cells (bareM h).cells 66 (0, 0)) := u8.get hb (by simp [noB])
    have hq3 : (bareM h).head.next = h.next := rfl
    simp [go_sem, K_append_ok _ _ _ _ hrun]
    refine den_loop (fun _ ρ W' => ρ 4 = .pointer (some ⟨w.heap.size + 1, 0, none⟩) ∧ ρ 7 = v3 ∧ W' = W8) 0 ⟨by simp [go_sem], by simp [go_sem], rfl⟩ ?_
    rintro m ρ W' ⟨g4, g7, rfl⟩
    simp [go_sem, g4, g7, hb8, hq3, hn]
    exact ⟨hu.trans u8, own_base own8 hu.size⟩
  · simp [go_sem, hrep, hb2']
    refine CallP.mono (msgReply_any hb2 hf) ?_
    rintro r W5 ⟨rfl, hW5⟩
    rw [hW5]; clear hW5; clear W5
    rw [hq]
    simp [go_sem, hrep, hb2']
    refine CallP.mono (silent_zero _) ?_
    rintro r W6 ⟨rfl, u26⟩
    have hb6 : MsgAt W6 (w.heap.size + 1) (bareM h) := u26.get hb2 (by simp [noB])
    simp [go_sem]
    refine CallP.mono (msgFault_any hb6 hf) ?_
    rintro r W5 ⟨rfl, hW5⟩
    rw [hW5]; clear hW5; clear W5
    rw [hq]
    simp [go_sem, hrep]
    refine fin _ W6 u26 hb6 ?_
    intro v2 W7 u7 own7
    have own' := own_keep0 (own_keep0 own u26) u7
    have u27 := u26.trans u7
    have hb7 : MsgAt W7 (w.heap.size + 1) (bareM h) := u7.get hb6 (by simp [noB])
    obtain ⟨v3, W8, hrun, own8, hg8⟩ := OwnB.append (l := headB h) own' own7.at 31 (by rw [headB_len]; decide) ((u2.trans u27).size)
    have u8 : Upd noB W W8 := upd_append own' (u2.trans u27) (Nat.le_refl _) hg8
    have hb8 : W8.heap[w.heap.size + 1]? = some (.cells (bareM h).cells 66 (0, 0)) := u8.get hb (by simp [noB])
    have hq3 : (bareM h).head.next = h.next := rfl
    simp [go_sem, K_append_ok _ _ _ _ hrun]
    refine den_loop (fun _ ρ W' => ρ 4 = .pointer (some ⟨w.heap.size + 1, 0, none⟩) ∧ ρ 7 = v3 ∧ W' = W8) 0 ⟨by simp [go_sem], by simp [go_sem], rfl⟩ ?_
    rintro m ρ W' ⟨g4, g7, rfl⟩
    simp [go_sem, g4, g7, hb8, hq3, hn]
    exact ⟨hu.trans u8, own_base own8 hu.size⟩
end Go.Proofs.YtinfdomlpbikaaaGreatDoor
namespace Go.Proofs.YtinfdomlpbikaaaGreatDoor
open Go.Eng
set_option linter.unusedSimpArgs false
set_option linter.unusedVariables false
set_option maxRecDepth 100000
variable {w w0 : World}
/-- an askReader's block: its bytes, its place, its error, its Ask -/
structure RdV where
  b : SlV
  at_ : Int
  e : Int
  ask : AskV
def RdV.row (r : RdV) : List Value := [.slice r.b.p r.b.n r.b.cap, .int .i64 r.at_, .int .i64 r.e] ++ r.ask.row
def RdV.cells (r : RdV) : Array Value := r.row.toArray
theorem RdV.row_len (r : RdV) : r.row.length = 72 := by simp [RdV.row, AskV.row_len]
@[go_sem] theorem RdV.size (r : RdV) : r.cells.size = 72 := by show r.row.length = 72; exact r.row_len
@[go_sem] theorem rdq0 (r : RdV) : r.cells[0]? = some (.slice r.b.p r.b.n r.b.cap) := by rw [show r.cells = r.row.toArray from rfl, List.getElem?_toArray]; simp [RdV.row]
@[go_sem] theorem rdq1 (r : RdV) : r.cells[1]? = some (.int .i64 r.at_) := by rw [show r.cells = r.row.toArray from rfl, List.getElem?_toArray]; simp [RdV.row]
@[go_sem] theorem rdq2 (r : RdV) : r.cells[2]? = some (.int .i64 r.e) := by rw [show r.cells = r.row.toArray from rfl, List.getElem?_toArray]; simp [RdV.row]
@[go_sem] theorem rdg0 (r : RdV) (hp : 0 < r.cells.size) : r.cells[0] = .slice r.b.p r.b.n r.b.cap := Option.some.inj ((Array.getElem?_eq_getElem hp).symm.trans (rdq0 r))
@[go_sem] theorem rdg1 (r : RdV) (hp : 1 < r.cells.size) : r.cells[1] = .int .i64 r.at_ := Option.some.inj ((Array.getElem?_eq_getElem hp).symm.trans (rdq1 r))
@[go_sem] theorem rdg2 (r : RdV) (hp : 2 < r.cells.size) : r.cells[2] = .int .i64 r.e := Option.some.inj ((Array.getElem?_eq_getElem hp).symm.trans (rdq2 r))
@[go_sem] theorem rds1 (r : RdV) (z : Int) : r.cells.setIfInBounds 1 (.int .i64 z) = { r with at_ := z }.cells := by
  apply Array.toList_inj.1
  rw [Array.toList_setIfInBounds]
  show r.row.set 1 _ = _
  simp [RdV.cells, RdV.row]
@[go_sem] theorem rds2 (r : RdV) (z : Int) : r.cells.setIfInBounds 2 (.int .i64 z) = { r with e := z }.cells := by
  apply Array.toList_inj.1
  rw [Array.toList_setIfInBounds]
  show r.row.set 2 _ = _
  simp [RdV.cells, RdV.row]
@[go_sem high] theorem rd_cut (r : RdV) (t : TypeId) (f : Nat × Nat) : cutIn (some (.cells r.cells t f)) 3 69 = some r.ask.row := by
  have h := cut_part (r := r.row) (a := [.slice r.b.p r.b.n r.b.cap, .int .i64 r.at_, .int .i64 r.e]) (b := r.ask.row) (c := []) t f (by simp [RdV.row])
  rw [AskV.row_len] at h
  exact h
@[go_sem] theorem rds0 (r : RdV) (p : Option Addr) (n c : Nat) : r.cells.setIfInBounds 0 (.slice p n c) = { r with b := ⟨p, n, c⟩ }.cells := by
  apply Array.toList_inj.1
  rw [Array.toList_setIfInBounds]
  show r.row.set 0 _ = _
  simp [RdV.cells, RdV.row]
def zeroR : RdV := ⟨⟨none, 0, 0⟩, 0, 0, zeroA⟩
@[go_sem high] theorem zc_rd : Tryz.zeroCells161 = zeroR.cells := (rfl)
def RdAt (W : World) (b : Nat) (r : RdV) : Prop := W.heap[b]? = some (.cells r.cells 161 (0, 0))
/-- a reader's number -/
theorem rdN_any {b : Nat} {r : RdV} {l : List UInt8} (hr : RdAt w b r) (hb : BytesAt w (.slice r.b.p r.b.n r.b.cap) l) (hl : l.length ≤ 9223372036854775000) (a k : Nat) (ha : r.at_ = (a : Int)) (he : r.e = 0) (hk : sizeOk k) (h : a + k ≤ l.length) :
    CallP Tryz.prog 151 #[.pointer (some ⟨b, 0, none⟩), .int .i64 k] w (fun v w' => v = .int .u64 (numAt l a k) ∧ Upd (fun x => x = b) w w' ∧ RdAt w' b { r with at_ := (a : Int) + k }) := by
  have hr' := hr
  unfold RdAt at hr'
  have hn : r.b.n = l.length := by
    obtain ⟨p, cap, e, _⟩ := hb.len
    injection e
  have hw1 : IntKind.i64.wrap ((l.length : Int) - a) = (l.length : Int) - a := wrap64_id (by omega) (by omega)
  have hw2 : IntKind.i64.wrap ((a : Int) + k) = (a : Int) + k := wrap64_id (by omega) (by omega)
  have n1 : ¬ (l.length : Int) - a < k := by omega
  refine call_den (args := [_, _]) Tryz.func151 rfl rfl (by simp [Tryz.ntmps151]) ?_
  simp [go_sem, hr', he]
  refine draw_script [.pure 0, .pure 5, .pure 10, .still [1, 2, 3, 4, 6, 7, 8], .one 9, .one 11] (by kernel_rfl) (by kernel_rfl) (by kernel_rfl) ?_
  simp [go_sem, hr', ha, hn, hw1, n1]
  refine draw_script [.pure 0, .pure 4, .pure 8, .still [1, 2, 3, 5, 6, 7], .one 9, .pure 10, .still [11, 12, 13], .pure 14] (by kernel_rfl) (by kernel_rfl) (by kernel_rfl) ?_
  simp [go_sem, hr', ha]
  have ud : Upd noB w w.drew.drew := (Upd.refl _ _).drew.drew
  refine CallP.mono (endsGet_any (hb.keep0 ud) (by omega) a k h hk) ?_
  rintro v W ⟨rfl, hW⟩
  have hu : Upd (fun x => x = b) w W := by rw [hW]; exact (Upd.refl _ _).drew.drew
  have hrW : W.heap[b]? = some (.cells r.cells 161 (0, 0)) := by rw [hW]; exact hr'
  clear hW
  simp [go_sem, hrW, ha, hw2]
  refine ⟨rfl, hu.setB _ _ (fun _ => rfl), ?_⟩
  unfold RdAt
  rw [heap_setB, if_pos rfl, hrW]
  simp only [Option.map_some, he]
theorem rdZero_any {b : Nat} {r : RdV} {l : List UInt8} (hr : RdAt w b r) (hb : BytesAt w (.slice r.b.p r.b.n r.b.cap) l) (hl : l.length ≤ 9223372036854775000) (a k : Nat) (ha : r.at_ = (a : Int)) (he : r.e = 0) (hk : sizeOk k) (h : a + k ≤ l.length) (hz : numAt l a k = 0) :
    CallP Tryz.prog 154 #[.pointer (some ⟨b, 0, none⟩), .int .i64 k] w (fun v w' => Upd (fun x => x = b) w w' ∧ RdAt w' b { r with at_ := (a : Int) + k }) := by
  refine call_den (args := [_, _]) Tryz.func154 rfl rfl (by simp [Tryz.ntmps154]) ?_
  simp [go_sem]
  refine CallP.mono (rdN_any hr hb hl a k ha he hk h) ?_
  rintro v W ⟨rfl, hu, hrW⟩
  simp [go_sem, hz]
  exact ⟨hu, hrW⟩
theorem rdEnd_any {b : Nat} {r : RdV} (hr : RdAt w b r) (he : r.e = 0) :
    CallP Tryz.prog 155 #[.pointer (some ⟨b, 0, none⟩)] w (fun v w' => v = .int .i64 (if r.at_ = r.b.n then 0 else 5) ∧ Upd (fun x => x = b) w w' ∧ RdAt w' b (if r.at_ = r.b.n then r else { r with e := 5 })) := by
  have hr' := hr
  unfold RdAt at hr'
  refine call_den (args := [_]) Tryz.func155 rfl rfl (by simp [Tryz.ntmps155]) ?_
  simp [go_sem]
  refine draw_script [.pure 0, .one 1, .pure 2, .one 3, .one 4, .pure 5, .pure 6, .pure 10, .still [7, 8, 9, 11, 12, 13, 14], .one 15, .one 16] (by kernel_rfl) (by kernel_rfl) (by kernel_rfl) ?_
  by_cases h : r.at_ = r.b.n
  · simp [go_sem, hr', he, h]
    exact ⟨(Upd.refl _ _).drew, hr'⟩
  · simp [go_sem, hr', he, h]
    refine ⟨(Upd.refl _ _).drew.setB _ _ (fun _ => rfl), ?_⟩
    unfold RdAt
    rw [heap_setB, if_pos rfl]
    have hd : w.drew.heap[b]? = some (.cells r.cells 161 (0, 0)) := hr'
    rw [hd]
    rfl
theorem rdEnd_ok {b : Nat} {r : RdV} (hr : RdAt w b r) (he : r.e = 0) (h : r.at_ = r.b.n) : CallP Tryz.prog 155 #[.pointer (some ⟨b, 0, none⟩)] w (fun v w' => v = .int .i64 0 ∧ Upd (fun x => x = b) w w' ∧ RdAt w' b r) := by
  refine CallP.mono (rdEnd_any hr he) ?_
  rintro v w' ⟨h1, h2, h3⟩
  rw [if_pos h] at h1 h3
  exact ⟨h1, h2, h3⟩
theorem rdEnd_bad {b : Nat} {r : RdV} (hr : RdAt w b r) (he : r.e = 0) (h : ¬ r.at_ = r.b.n) : CallP Tryz.prog 155 #[.pointer (some ⟨b, 0, none⟩)] w (fun v w' => v = .int .i64 5 ∧ Upd (fun x => x = b) w w') := by
  refine CallP.mono (rdEnd_any hr he) ?_
  rintro v w' ⟨h1, h2, h3⟩
  rw [if_neg h] at h1
  exact ⟨h1, h2⟩
set_option maxHeartbeats 2000000 in
theorem getAsk_echo {s : Value} {l : List UInt8} (hb : BytesAt w s l) (hl : 4 ≤ l.length) (hl2 : l.length ≤ 9223372036854775000) (hz : numAt l 0 4 = 0) :
    CallP Tryz.prog 93 #[.int .u16 13, s] w (fun r w' => r = .tuple #[.agg zeroA.cells, .int .i64 (if l.length = 4 then 0 else 5)] ∧ Upd noB w w') := by
  obtain ⟨p, cap, rfl, hcap⟩ := hb.len
  refine call_den (args := [_, _]) Tryz.func93 rfl rfl (by simp [Tryz.ntmps93]) ?_
  simp [go_sem]
  refine CallP.mono (talkKnown_echo _) ?_
  rintro r W ⟨rfl, hW⟩
  have hu : Upd noB w W := by rw [hW]; exact (by repeat (first | exact Upd.refl _ _ | refine Upd.alloc ?_ _ | refine Upd.drew ?_ | refine Upd.drewN ?_ _ | refine Upd.setB ?_ _ _ (fun h => absurd h (by omega))))
  have h0 : W.heap[w.heap.size]? = some (.cells zeroA.cells 34 (0, 0)) := by rw [hW, heap_alloc, if_pos rfl]
  clear hW
  simp [go_sem]
  refine gen_call ?_
  intro W2 hW2
  obtain ⟨r, hr⟩ : ∃ r : RdV, r = ⟨⟨p, l.length, cap⟩, 0, 0, zeroA⟩ := ⟨_, rfl⟩
  have hu2 : Upd noB w W2 := by rw [hW2]; exact hu.alloc _
  have hr2 : RdAt W2 W.heap.size r := by unfold RdAt; rw [hW2, heap_alloc, if_pos rfl, hr]; rfl
  have hne : W.heap.size ≠ w.heap.size := fun e => by have := (old_ne h0).1; omega
  have h02 : W2.heap[w.heap.size]? = some (.cells zeroA.cells 34 (0, 0)) := by rw [hW2, heap_alloc, if_neg (fun e => hne e.symm)]; exact h0
  have hbn : w.heap.size ≤ W.heap.size := hu.size
  clear hW2
  generalize W.heap.size = b at *
  refine CallP.mono (rdZero_any (l := l) hr2 (by rw [hr]; exact hb.keep0 hu2) hl2 0 4 (by rw [hr]; rfl) (by rw [hr]) (by decide) (by omega) hz) ?_
  rintro v W3 ⟨u3, hr3⟩
  have hu3 : Upd noB w W3 := hu2.trans' u3 (fun i hi hlt => by omega)
  have h03 := u3.get h02 (fun e => hne e.symm)
  simp [go_sem]
  have hbl : r.b.n = l.length := by rw [hr]
  by_cases h4 : l.length = 4
  · refine CallP.mono (rdEnd_ok hr3 (by rw [hr]) (by show (0 : Int) + 4 = r.b.n; rw [hbl, h4]; rfl)) ?_
    rintro v W4 ⟨rfl, u4, hr4⟩
    have hu4 : Upd noB w W4 := hu3.trans' u4 (fun i hi hlt => by omega)
    have h04 := u4.get h03 (fun e => hne e.symm)
    unfold RdAt at hr4
    have hra : r.ask = zeroA := by rw [hr]
    simp [go_sem, hr4, h04, h4, hra]
    exact hu4.setB _ _ (fun h => absurd h (by omega))
  · refine CallP.mono (rdEnd_bad hr3 (by rw [hr]) (by show ¬ (0 : Int) + 4 = r.b.n; rw [hbl]; omega)) ?_
    rintro v W4 ⟨rfl, u4⟩
    have hu4 : Upd noB w W4 := hu3.trans' u4 (fun i hi hlt => by omega)
    have h04 := u4.get h03 (fun e => hne e.symm)
    simp [go_sem, h04, h4]
    exact hu4.setB _ _ (fun h => absurd h (by omega))
def CodecAt (W : World) (bx : Nat) : Prop := W.heap[bx]? = some (.cells #[.func (.func 92) #[] #[], .func (.func 93) #[] #[], .func (.func 94) #[] #[], .func (.func 95) #[] #[]] 92 (0, 0))
def RdS (bx b : Nat) (m : MsgV) (W : World) : Prop := CodecAt W bx ∧ MsgAt W b m
def AnyS (W : World) : Prop := True
set_option maxHeartbeats 4000000 in
theorem read_echo {b : Nat} {m : MsgV} {s : Value} {l : List UInt8} (hm : MsgAt w b m) (hf : 0 ≤ m.head.flags ∧ m.head.flags < 4294967296) (hc : m.head.command = 13) (hrep : ¬ hasF m.head.flags 1) (hb : BytesAt w s l) (hl : 4 ≤ l.length) (hl2 : l.length ≤ 9223372036854775000) (hz : numAt l 0 4 = 0) :
    CallP Tryz.prog 44 #[.pointer (some ⟨b, 0, none⟩), s] w (fun r w' => r = .int .i64 (if l.length = 4 then 0 else 5) ∧ Upd (fun x => x = b) w w' ∧ MsgAt w' b { m with ask := zeroA }) := by
  obtain ⟨p, cap, rfl, hcap⟩ := hb.len
  have hm' := hm
  unfold MsgAt at hm'
  refine call_den (args := [_, _]) Tryz.func44 rfl rfl (by simp [Tryz.ntmps44]) ?_
  simp [go_sem, hm', hc]
  refine CallP.mono (by_talk _) ?_
  rintro r W ⟨rfl, u1⟩
  simp [go_sem]
  refine gen_call ?_
  intro W1 hW1
  have hu : Upd noB w W1 := by rw [hW1]; exact (u1.alloc _).setB _ _ (fun h => absurd h (by have := u1.size; omega))
  have hx : W1.heap[W.heap.size]? = some (.cells #[.func (.func 92) #[] #[], .func (.func 93) #[] #[], .func (.func 94) #[] #[], .func (.func 95) #[] #[]] 92 (0, 0)) := by
    rw [hW1, heap_setB, if_pos rfl, heap_alloc, if_pos rfl]; rfl
  obtain ⟨bx, hbx⟩ : ∃ bx, bx = W.heap.size := ⟨_, rfl⟩
  have hbw : w.heap.size ≤ bx := by rw [hbx]; exact u1.size
  rw [← hbx] at hx ⊢
  have hm1 : MsgAt W1 b m := hu.get hm (by simp [noB])
  clear hW1 u1 hbx
  refine CallP.mono (msgFault_any hm1 hf) ?_
  rintro r W2 ⟨rfl, hW2⟩
  rw [hW2]; clear hW2; clear W2
  simp [go_sem, hrep]
  refine CallP.mono (msgReply_any hm1 hf) ?_
  rintro r W2 ⟨rfl, hW2⟩
  rw [hW2]; clear hW2; clear W2
  simp [go_sem, hrep]
  refine CallP.mono (msgReply_any hm1 hf) ?_
  rintro r W2 ⟨rfl, hW2⟩
  rw [hW2]; clear hW2; clear W2
  simp [go_sem, hrep]
  have hS0 : RdS bx b m W1.drew := ⟨hx, hm1⟩
  have hud : Upd noB w W1.drew := hu.drew
  refine draw_script [.pure 0, .pure 1, .pure 3, .pure 8, .held [2, 4, 5, 6, 7] 9, .pure 10, .held [11, 12, 13, 14] 15, .pure 16] (by kernel_rfl) (by kernel_rfl) (by kernel_rfl) ?_
  simp [go_sem]
  haveI : Nonempty { W : World // RdS bx b m W } := ⟨⟨W1.drew, hS0⟩⟩
  have q1 : ∀ i : { W : World // RdS bx b m W }, i.1.heap[bx]? = some (.cells #[.func (.func 92) #[] #[], .func (.func 93) #[] #[], .func (.func 94) #[] #[], .func (.func 95) #[] #[]] 92 (0, 0)) := fun i => i.2.1
  have q2 : ∀ i : { W : World // RdS bx b m W }, i.1.heap[b]? = some (.cells m.cells 66 (0, 0)) := fun i => i.2.2
  refine opsPh_held _ _ (RdS bx b m) hS0 ?_
  simp [go_sem, q1, q2, hc]
  refine CallP.mono (getAsk_echo (hb.keep0 hud) hl hl2 hz) ?_
  rintro r W3 ⟨rfl, u3⟩
  have hm3 : MsgAt W3 b m := u3.get hm1 (by simp [noB])
  have hu3 := hud.trans u3
  refine ⟨⟨u3.get hx (by simp [noB]), hm3⟩, ?_⟩
  simp [go_sem]
  haveI : Nonempty { W : World // AnyS W } := ⟨⟨W3, trivial⟩⟩
  refine opsPh_held _ _ AnyS trivial ?_
  have hm3' := hm3
  unfold MsgAt at hm3'
  simp [go_sem, hm3']
  refine ⟨trivial, ?_⟩
  have hput : MsgAt (W3.setB b (.cells { m with ask := zeroA }.cells 66)) b { m with ask := zeroA } := by
    unfold MsgAt
    rw [heap_setB, if_pos rfl, hm3']
    rfl
  have hus : Upd (fun x => x = b) w (W3.setB b (.cells { m with ask := zeroA }.cells 66)) := (hu3.mono (fun _ _ h => h.elim)).setB _ _ (fun _ => rfl)
  exact ⟨hus, hput⟩
end Go.Proofs.YtinfdomlpbikaaaGreatDoor
namespace Go.Proofs.YtinfdomlpbikaaaGreatDoor
open Go.Eng
set_option linter.unusedSimpArgs false
set_option linter.unusedVariables false
set_option maxRecDepth 100000
variable {w w0 : World}
theorem words_nil (w : World) : CallP Tryz.prog 59 #[.slice none 0 0, .slice none 0 0] w (fun r w' => r = .bool true ∧ w' = w) := by
  refine call_den (args := [_, _]) Tryz.func59 rfl rfl (by simp [Tryz.ntmps59]) ?_
  simp [go_sem]
  refine den_loop (fun _ ρ w' => ρ 0 = .slice none 0 0 ∧ ρ 5 = .int .i64 0 ∧ w' = w) 0 ⟨by simp [go_sem], by simp [go_sem], rfl⟩ ?_
  rintro m ρ w' ⟨g0, g5, rfl⟩
  simp [go_sem, g0, g5]
theorem same_nil (w : World) : CallP Tryz.prog 14 #[.slice none 0 0, .slice none 0 0] w (fun r w' => r = .bool true ∧ w' = w) := by
  refine call_den (args := [_, _]) Tryz.func14 rfl rfl (by simp [Tryz.ntmps14]) ?_
  simp [go_sem]
  refine den_loop (fun _ ρ w' => ρ 0 = .slice none 0 0 ∧ ρ 5 = .int .i64 0 ∧ w' = w) 0 ⟨by simp [go_sem], by simp [go_sem], rfl⟩ ?_
  rintro m ρ w' ⟨g0, g5, rfl⟩
  simp [go_sem, g0, g5]
theorem locks_nil (w : World) : CallP Tryz.prog 60 #[.slice none 0 0, .slice none 0 0] w (fun r w' => r = .bool true ∧ w' = w) := by
  refine call_den (args := [_, _]) Tryz.func60 rfl rfl (by simp [Tryz.ntmps60]) ?_
  simp [go_sem]
  refine den_loop (fun _ ρ w' => ρ 0 = .slice none 0 0 ∧ ρ 5 = .int .i64 0 ∧ w' = w) 0 ⟨by simp [go_sem], by simp [go_sem], rfl⟩ ?_
  rintro m ρ w' ⟨g0, g5, rfl⟩
  simp [go_sem, g0, g5]
theorem entries_nil (w : World) : CallP Tryz.prog 61 #[.slice none 0 0, .slice none 0 0] w (fun r w' => r = .bool true ∧ w' = w) := by
  refine call_den (args := [_, _]) Tryz.func61 rfl rfl (by simp [Tryz.ntmps61]) ?_
  simp [go_sem]
  refine den_loop (fun _ ρ w' => ρ 0 = .slice none 0 0 ∧ ρ 5 = .int .i64 0 ∧ w' = w) 0 ⟨by simp [go_sem], by simp [go_sem], rfl⟩ ?_
  rintro m ρ w' ⟨g0, g5, rfl⟩
  simp [go_sem, g0, g5]
set_option maxHeartbeats 4000000 in
theorem asks_zero (w : World) : CallP Tryz.prog 40 #[.agg zeroA.cells, .agg zeroA.cells] w (fun r w' => r = .bool true ∧ Upd noB w w') := by
  refine call_den (args := [_, _]) Tryz.func40 rfl rfl (by simp [Tryz.ntmps40]) ?_
  simp [go_sem]
  refine CallP.mono (words_nil _) ?_
  rintro r W ⟨rfl, hW⟩
  have hu : Upd noB w W := by rw [hW]; exact (by repeat (first | exact Upd.refl _ _ | refine Upd.alloc ?_ _ | refine Upd.drew ?_ | refine Upd.drewN ?_ _ | refine Upd.setB ?_ _ _ (fun h => absurd h (by omega))))
  have hb0 : W.heap[w.heap.size]? = some (.cells zeroA.cells 34 (0, 0)) := by rw [hW, heap_alloc, if_neg (by simp), heap_alloc, if_pos rfl]
  have hb1 : W.heap[w.heap.size + 1]? = some (.cells zeroA.cells 34 (0, 0)) := by rw [hW, heap_alloc, if_pos (by simp)]
  clear hW
  simp [go_sem, hb0, hb1]
  refine CallP.mono (same_nil _) ?_
  rintro r W2 ⟨rfl, hW2⟩
  rw [hW2]; clear hW2; clear W2
  simp [go_sem, hb0, hb1]
  refine CallP.mono (locks_nil _) ?_
  rintro r W2 ⟨rfl, hW2⟩
  rw [hW2]; clear hW2; clear W2
  simp [go_sem, hb0, hb1]
  exact hu
set_option maxHeartbeats 4000000 in
theorem says_zero (w : World) : CallP Tryz.prog 41 #[.agg zeroS.cells, .agg zeroS.cells] w (fun r w' => r = .bool true ∧ Upd noB w w') := by
  refine call_den (args := [_, _]) Tryz.func41 rfl rfl (by simp [Tryz.ntmps41]) ?_
  simp [go_sem]
  refine CallP.mono (same_nil _) ?_
  rintro r W ⟨rfl, hW⟩
  have hu : Upd noB w W := by rw [hW]; exact (by repeat (first | exact Upd.refl _ _ | refine Upd.alloc ?_ _ | refine Upd.drew ?_ | refine Upd.drewN ?_ _ | refine Upd.setB ?_ _ _ (fun h => absurd h (by omega))))
  have hb0 : W.heap[w.heap.size]? = some (.cells zeroS.cells 39 (0, 0)) := by rw [hW, heap_alloc, if_neg (by simp), heap_alloc, if_pos rfl]
  have hb1 : W.heap[w.heap.size + 1]? = some (.cells zeroS.cells 39 (0, 0)) := by rw [hW, heap_alloc, if_pos (by simp)]
  clear hW
  simp [go_sem, hb0, hb1]
  refine CallP.mono (entries_nil _) ?_
  rintro r W2 ⟨rfl, hW2⟩
  rw [hW2]; clear hW2; clear W2
  simp [go_sem, hb0, hb1]
  exact hu
theorem eqH_self (h : HeadV) : eqH h h = true := (eqH_iff h h).2 rfl
set_option maxHeartbeats 4000000 in
theorem same_bare (h : HeadV) (w : World) : CallP Tryz.prog 15 #[.agg (bareM h).cells, .agg (bareM h).cells] w (fun r w' => r = .bool true ∧ Upd noB w w') := by
  refine call_den (args := [_, _]) Tryz.func15 rfl rfl (by simp [Tryz.ntmps15]) ?_
  simp [go_sem, eqH_self]
  refine CallP.mono (asks_zero _) ?_
  rintro r W2 ⟨rfl, u2⟩
  have hb1 : W2.heap[w.heap.size + 1]? = some (.cells (bareM h).cells 41 (0, 0)) := u2.get (by rw [heap_alloc, if_pos (by simp)]) (by simp [noB])
  have hb0 : W2.heap[w.heap.size]? = some (.cells (bareM h).cells 41 (0, 0)) := u2.get (by rw [heap_alloc, if_neg (by simp), heap_alloc, if_pos rfl]) (by simp [noB])
  have hu : Upd noB w W2 := Upd.trans (((Upd.refl _ _).alloc _).alloc _) u2
  clear u2
  simp [go_sem, hb0, hb1]
  refine CallP.mono (says_zero _) ?_
  rintro r W3 ⟨rfl, u3⟩
  simp [go_sem]
  exact hu.trans u3
set_option maxHeartbeats 4000000 in
theorem get_bare {s : Value} {l : List UInt8} (hb : BytesAt w s l) (hl : 68 ≤ l.length) (hl2 : l.length ≤ 1000000) (h : HeadV) (ok : h.ok) (hg : getH l 0 = h) (hbad : badH l 0 = false) (hc : h.command = 13) (hrep : ¬ hasF h.flags 1) (hn : h.next = 0) (hz : numAt ((l.drop 64).take (l.length - 64)) 0 4 = 0) :
    CallP Tryz.prog 18 #[s] w (fun r w' => Upd noB w w' ∧ r = if l.length = 68 then .tuple #[.agg (bareM h).cells, .int .i64 0] else .tuple #[.agg zeroM.cells, .int .i64 5]) := by
  obtain ⟨p, cap, rfl, hcap⟩ := hb.len
  have hf := ok.flags
  refine call_den (args := [_]) Tryz.func18 rfl rfl (by simp [Tryz.ntmps18]) ?_
  simp [go_sem]
  refine CallP.mono (headGet_any (hb.keep0 (by repeat (first | exact Upd.refl _ _ | refine Upd.alloc ?_ _ | refine Upd.drew ?_ | refine Upd.drewN ?_ _ | refine Upd.setB ?_ _ _ (fun h => absurd h (by omega))))) (by omega) 0 (Nat.zero_le _)) ?_
  rintro r W ⟨u1, hres⟩
  unfold GetOut at hres
  rw [if_neg (by omega), if_neg (by rw [hbad]; simp), hg] at hres
  subst hres
  have hu : Upd noB w W := Upd.trans ((Upd.refl _ _).alloc _) u1
  have hz0 : W.heap[w.heap.size]? = some (.cells zeroM.cells 41 (0, 0)) := u1.get (by rw [heap_alloc, if_pos rfl]) (by simp [noB])
  clear u1
  obtain ⟨b, off, rfl⟩ : ∃ b off, p = some ⟨b, off, none⟩ := by
    rcases hb.1.2 with ⟨q, c, hv, h0⟩ | ⟨b, off, c, cc, te, f, hv, _⟩
    · omega
    · injection hv with h1
      exact ⟨b, off, h1⟩
  have h64 : (64 : Int) ≤ l.length := by omega
  have hc64 : ¬ cap = 64 := by omega
  simp [go_sem, h64, hc64]
  refine gen_call ?_
  intro W2 hW2
  have hu2 : Upd noB w W2 := by rw [hW2]; exact ((hu.alloc _).setB _ _ (fun h => absurd h (by have := hu.size; omega))).alloc _
  have hsz := (old_ne hz0).1
  have hz2 : W2.heap[w.heap.size]? = some (.cells zeroM.cells 41 (0, 0)) := by rw [hW2, heap_alloc, if_neg (by simp [size_setB]; omega), heap_setB, if_neg (by omega), heap_alloc, if_neg (by omega)]; exact hz0
  have hh2 : W2.heap[W.heap.size]? = some (.cells h.cells 28 (0, 0)) := by rw [hW2, heap_alloc, if_neg (by simp [size_setB]), heap_setB, if_pos rfl, heap_alloc, if_pos rfl]; rfl
  have hm2 : MsgAt W2 (W.heap.size + 1) (bareM h) := by unfold MsgAt; rw [hW2, heap_alloc, if_pos (by simp [size_setB])]; rfl
  have hbm : w.heap.size ≤ W.heap.size := hu.size
  obtain ⟨bh, hbh⟩ : ∃ bh, bh = W.heap.size := ⟨_, rfl⟩
  rw [← hbh] at hh2 hm2 hbm hsz ⊢
  clear hW2 hz0 hu hbh
  have key := (hb.keep0 hu2).cut (lo := 64) (hi := l.length) (m := cap) (by omega) (Nat.le_refl _) hcap
  have e1 : sliced (some ⟨b, off, none⟩) 64 l.length cap 1 = Value.slice (some ⟨b, off + 64, none⟩) (l.length - 64) (cap - 64) := by
    unfold sliced; simp [hc64, addr_add]
  rw [e1] at key
  have hl' : ((l.drop 64).take (l.length - 64)).length = l.length - 64 := by simp
  refine CallP.mono (read_echo (m := bareM h) hm2 hf hc hrep key (by rw [hl']; omega) (by rw [hl']; omega) hz) ?_
  rintro r W3 ⟨rfl, u3, hm3⟩
  have hu3 : Upd noB w W3 := hu2.trans' u3 (fun i hi hlt => by omega)
  have hz3 := u3.get hz2 (by omega)
  have hh3 := u3.get hh2 (by omega)
  replace hm3 : MsgAt W3 (bh + 1) (bareM h) := hm3
  rw [hl']
  clear hu2 hz2 hh2 hm2 u3
  by_cases h68 : l.length = 68
  · have h4 : l.length - 64 = 4 := by omega
    simp [go_sem, h4, hh3, hn]
    have hud : Upd noB w W3.drew := hu3.drew
    have hmd : W3.drew.heap[bh + 1]? = some (.cells (bareM h).cells 66 (0, 0)) := hm3
    have la : (Instr.loadAt 28 (.pointer (some ⟨bh + 1, 0, none⟩))).run Tryz.prog W3.drew = .ok (.agg h.cells) W3.drew :=
      loadAt_cut (W := W3.drew) (b := bh + 1) (o := 0) (Tryz.isAgg28 _) (Tryz.sizeOf28 _) (by rw [hmd]; exact msg_cut0 (bareM h) _ _)
    have lb : (Instr.loadAt 34 (.pointer (some ⟨bh + 1, 26, none⟩))).run Tryz.prog W3.drew = .ok (.agg zeroA.cells) W3.drew :=
      loadAt_cut (W := W3.drew) (b := bh + 1) (o := 26) (Tryz.isAgg34 _) (Tryz.sizeOf34 _) (by rw [hmd]; exact msg_cut1 (bareM h) _ _)
    have lc : (Instr.loadAt 39 (.pointer (some ⟨bh + 1, 95, none⟩))).run Tryz.prog W3.drew = .ok (.agg zeroS.cells) W3.drew :=
      loadAt_cut (W := W3.drew) (b := bh + 1) (o := 95) (Tryz.isAgg39 _) (Tryz.sizeOf39 _) (by rw [hmd]; exact msg_cut2 (bareM h) _ _)
    refine draw_script [.pure 0, .pure 4, .pure 8, .still [1, 2, 3, 5, 6, 7, 9, 10, 11], .one 12, .one 13, .pure 14] (by kernel_rfl) (by kernel_rfl) (by kernel_rfl) ?_
    simp [go_sem, Q_load_fix (W := fun _ : Unit => W3.drew) (fun _ => la), Q_load_fix (W := fun _ : Unit => W3.drew) (fun _ => lb), Q_load_fix (W := fun _ : Unit => W3.drew) (fun _ => lc), hz3, h68]
    exact ⟨hud.setB _ _ (fun h => absurd h (by omega)), rfl⟩
  · have h4 : ¬ l.length - 64 = 4 := by omega
    simp [go_sem, h4, hh3, hz3, hn, h68]
    exact hu3.setB _ _ (fun h => absurd h (by omega))
end Go.Proofs.YtinfdomlpbikaaaGreatDoor
namespace Go.Proofs.YtinfdomlpbikaaaGreatDoor
open Go.Eng
set_option linter.unusedSimpArgs false
set_option linter.unusedVariables false
set_option maxRecDepth 100000
variable {w w0 : World}
def h0 : HeadV := { charge := 0, status := 0, command := 13, credits := 0, flags := 0, next := 0, id := 1, async := 0, tree := 0, session := 0, sign := zeroH.sign }
def echo0 : List UInt8 := headB h0 ++ [0, 0, 0, 0]
theorem h0_ok : h0.ok := by refine ⟨?_, ?_, ?_, ?_, ?_, ?_, ?_, ?_, ?_, ?_⟩ <;> decide
theorem echo0_len : echo0.length = 68 := by simp [echo0, headB_len]
theorem h0_may : mayL h0 = true := by decide
theorem h0_rep : ¬ hasF h0.flags 1 := by decide
theorem echo0_head : getH echo0 0 = h0 := by kernel_rfl
theorem echo0_bad : badH echo0 0 = false := by kernel_rfl
theorem echo1_head : getH (echo0 ++ [0]) 0 = h0 := by kernel_rfl
theorem echo1_bad : badH (echo0 ++ [0]) 0 = false := by kernel_rfl
/-- a readable row's own cells, one by one -/
theorem row_cells_at {size n b off cap : Nat} {xs : List Value} (h : RowAt w size (.slice (some ⟨b, off, none⟩) n cap) n xs) : ∀ j u, xs[j]? = some u → w.cell? ((⟨b, off, none⟩ : Addr).add j) = some u := by
  intro j u hu
  rcases h.2 with ⟨p, c, _, rfl⟩ | ⟨b', off', c', cs, e, f, hv, hb, hle, htake⟩
  · have h0 := h.1
    simp at h0
    rw [h0] at hu
    cases hu
  · cases hv
    rw [cell?_add, hb, cellIn_some, ← Array.getElem?_toList, ← List.getElem?_drop]
    rw [← htake, List.getElem?_take] at hu
    split at hu
    · exact hu
    · cases hu
/-- append to a full slice, of something: new memory -/
theorem sl_append_full {P : Program} {t e : TypeId} {size bytes : Nat} (T : SlT P t e size bytes) {b off n m : Nat} {s : Value} {xs news : List Value} (dst : RowAt w size (.slice (some ⟨b, off, none⟩) n n) n xs)
    (src : RowAt w size s m news) (ty : TypeId) (h1 : ∀ u ∈ news, u.oneCell' = true) (hm : 0 < m) (hroom : (n + m) * bytes ≤ 140737488355328) (hmax : n + m ≤ maxLen)
    (h8d : e = 5 → ∀ u ∈ xs, IsU8 u := by first | exact fun h => absurd h (by decide) | exact fun _ => u8_is _) (h8 : e = 5 → ∀ u ∈ news, IsU8 u := by first | exact fun h => absurd h (by decide) | exact fun _ => u8_is _) :
    ∃ v' w', (Builtin.append_ #[t, t] ty #[.slice (some ⟨b, off, none⟩) n n, s]).run P w = .ok v' w' ∧ w'.ownsX w.heap.size e size v' (n + m) (xs ++ news) ∧ w.grownBy w' none := by
  obtain ⟨i, z, hi, hz, hs, hb, hzs⟩ := T.info
  rcases src.2 with ⟨p, cap, rfl, rfl⟩ | ⟨b2, off2, cap2, c, te, f, rfl, hbb, hle, htake⟩
  · omega
  · subst hs
    subst hb
    have hr := run_append_grow (P := P) w t ty e i z T.ht hi hz ⟨b, off, none⟩ n n xs dst.1 (row_cells_at dst) ⟨b2, off2, none⟩ m cap2 news src.1 (row_cells_at src) (by omega) (by simp only [maxLen] at hmax; omega) (growslice_fits (by omega) hroom)
    refine ⟨_, _, hr, ⟨⟨by rw [List.length_append, dst.1, src.1, Nat.add_mul], .inr ⟨w.heap.size, _, _, rfl, Nat.le_refl _, Go.heap_alloc_new w.drew _, grownCap_ge _ _ _ _, grownCap_le_maxLen _ _ _ _ hmax, ?_, ?_⟩⟩, full_cells (Go.heap_alloc_new w.drew _) ?_⟩, ⟨rfl, rfl, rfl, by simp, fun k hk _ => Go.heap_alloc_old w.drew _ hk⟩⟩
    · have hge := grownCap_ge w (n + m) n e
      simp only [Array.size_append, List.size_toArray, size_zeroCells, hzs, dst.1, src.1, ← Nat.add_mul]
      congr 1
      omega
    · have hlen : (xs ++ news).length = (n + m) * i.size := by rw [List.length_append, dst.1, src.1, Nat.add_mul]
      simp only [Array.toList_append, List.append_assoc]
      rw [← List.append_assoc, ← hlen]
      exact List.take_left
    · intro h u hu
      simp only [Array.toList_append, List.mem_append] at hu
      rcases hu with (hu | hu) | hu
      · exact h8d h u (by simpa using hu)
      · exact h8 h u (by simpa using hu)
      · exact T.zeros8 hi hz _ h u hu
theorem gen_append {P : Program} {ts : Array TypeId} {ty : TypeId} {args : Array Value} {k : Value → World → Prop} {W : World} (h : ∀ W2, W2 = W → K_append P ts ty args W2 k) : K_append P ts ty args W k := h W rfl
theorem append_fullB {b off : Nat} {l m : List UInt8} {s : Value} (dst : BytesAt w (.slice (some ⟨b, off, none⟩) l.length l.length) l) (src : BytesAt w s m) (ty : TypeId) (hm : 0 < m.length) (hroom : l.length + m.length ≤ 140737488355328) :
    ∃ v' w', (Builtin.append_ #[31, 31] ty #[.slice (some ⟨b, off, none⟩) l.length l.length, s]).run Tryz.prog w = .ok v' w' ∧ OwnB w' w.heap.size v' (l ++ m) ∧ Upd noB w w' := by
  obtain ⟨v', w', h1, h2, h3⟩ := sl_append_full slByte dst.1 src.1 ty (u8_one m) hm (by omega) (by simp [maxLen]; omega)
  refine ⟨v', w', h1, ?_, (Upd.refl _ _).grown h3 (fun b hb => by cases hb)⟩
  unfold OwnB
  rw [List.length_append, List.map_append]
  exact h2
set_option maxHeartbeats 4000000 in
theorem lives_any (w : World) : CallP Tryz.prog 16 #[] w (fun r w' => r = .bool true ∧ Upd noB w w') := by
  refine call_den (args := []) Tryz.func16 rfl rfl (by simp [Tryz.ntmps16]) ?_
  simp [go_sem]
  refine gen_call ?_
  intro W hW
  have hu : Upd noB w W := by rw [hW]; exact (by repeat (first | exact Upd.refl _ _ | refine Upd.alloc ?_ _ | refine Upd.drew ?_ | refine Upd.drewN ?_ _ | refine Upd.setB ?_ _ _ (fun h => absurd h (by omega))))
  have hm : W.heap[w.heap.size]? = some (.cells (bareM h0).cells 41 (0, 0)) := by rw [hW, heap_setB, if_pos rfl, heap_alloc, if_pos rfl]; rfl
  clear hW
  show CallP Tryz.prog 12 #[.agg (bareM h0).cells] W _
  refine CallP.mono (put_bare h0 h0_ok h0_may rfl rfl (fun h => absurd h h0_rep) W) ?_
  rintro r W2 ⟨v, rfl, u2, own⟩
  have hu2 := hu.trans u2
  have hm2 := u2.get hm (by simp [noB])
  obtain ⟨b, hb⟩ : ∃ b, b = w.heap.size := ⟨_, rfl⟩
  rw [← hb] at hm hm2 ⊢
  have hbt : BytesAt W2 v echo0 := own.at
  clear hu u2 hm
  simp [go_sem]
  refine CallP.mono (get_bare hbt (by rw [echo0_len]; decide) (by rw [echo0_len]; decide) h0 h0_ok echo0_head echo0_bad rfl h0_rep rfl (by kernel_rfl)) ?_
  rintro r W3 ⟨u3, rfl⟩
  have hu3 := hu2.trans u3
  have hm3 := u3.get hm2 (by simp [noB])
  have hbt3 := hbt.keep0 u3
  clear hu2 u3 hm2 hbt
  rw [if_pos echo0_len]
  obtain ⟨p, cap, hv, hcap⟩ := hbt3.len
  rw [echo0_len] at hv hcap
  subst hv
  obtain ⟨b1, off, rfl⟩ : ∃ b off, p = some ⟨b, off, none⟩ := by
    rcases hbt3.1.2 with ⟨q, c, hv, h0⟩ | ⟨b, off, c, cc, te, f, hv, _⟩
    · rw [echo0_len] at h0; omega
    · injection hv with h1
      exact ⟨b, off, h1⟩
  have hc68 : (68 : Int) ≤ cap := by omega
  have hb1 : ∀ (w : World) (k : Value → World → Prop), K_buildSlice Tryz.prog 31 1 #[(0, .int .u8 0)] w k = k (.slice (some ⟨w.heap.size, 0, none⟩) 1 1) (w.alloc (.cells ([0].map u8V).toArray 5)) := fun w k => slByte.build1K (P := Tryz.prog) (w := w) (u8V 0) rfl (by decide) k
  simp [go_sem, hm3, hc68, hb1]
  have hu4 : Upd noB w (((W3.alloc (.cells zeroM.cells 41)).setB W3.heap.size (.cells (bareM h0).cells 41)).alloc (.cells #[u8V 0] 5)) := ((hu3.alloc _).setB _ _ (fun h => absurd h (by have := hu3.size; omega))).alloc _
  refine gen_append ?_
  intro W4 hW
  rw [← hW] at hu4
  have hsz := (old_ne hm3).1
  have hm4 : W4.heap[b]? = some (.cells (bareM h0).cells 41 (0, 0)) := by rw [hW, heap_alloc, if_neg (by simp [size_setB]; omega), heap_setB, if_neg (by omega), heap_alloc, if_neg (by omega)]; exact hm3
  have hq4 : W4.heap[W3.heap.size]? = some (.cells (bareM h0).cells 41 (0, 0)) := by rw [hW, heap_alloc, if_neg (by simp [size_setB]), heap_setB, if_pos rfl, heap_alloc, if_pos rfl]; rfl
  have h34 : Upd noB W3 W4 := by rw [hW]; exact (by repeat (first | exact Upd.refl _ _ | refine Upd.alloc ?_ _ | refine Upd.drew ?_ | refine Upd.drewN ?_ _ | refine Upd.setB ?_ _ _ (fun h => absurd h (by omega))))
  have hs4 : BytesAt W4 (.slice (some ⟨W3.heap.size + 1, 0, none⟩) 1 1) [0] := by
    refine ⟨⟨by simp, Or.inr ⟨W3.heap.size + 1, 0, 1, #[u8V 0], 5, (0, 0), rfl, by rw [hW, heap_alloc, if_pos (by simp [size_setB])], by simp, by simp⟩⟩, Nat.le_refl _⟩
  have hd4 : BytesAt W4 (.slice (some ⟨b1, off, none⟩) echo0.length echo0.length) echo0 := by
    have h1 := (hbt3.keep0 h34).1
    rcases h1.2 with ⟨q, c, hv, h0⟩ | ⟨b, off, c, cc, te, f, hv, hr⟩
    · rw [echo0_len] at h0; omega
    · cases hv
      exact ⟨⟨h1.1, Or.inr ⟨_, _, echo0.length, _, _, _, by rw [echo0_len], hr⟩⟩, Nat.le_refl _⟩
  obtain ⟨bq, hbq⟩ : ∃ bq, bq = W3.heap.size := ⟨_, rfl⟩
  have hwq : w.heap.size ≤ bq := by rw [hbq]; exact hu3.size
  rw [← hbq] at hq4 hs4 ⊢
  clear hW h34 hbt3 hm3 hu3
  obtain ⟨v5, W5, hrun, own5, u5⟩ := append_fullB hd4 hs4 31 (by decide) (by rw [echo0_len]; decide)
  rw [echo0_len] at hrun
  have hu5 := hu4.trans u5
  have hm5 := u5.get hm4 (by simp [noB])
  have hq5 := u5.get hq4 (by simp [noB])
  simp [go_sem, K_append_ok _ _ _ _ hrun]
  have h69 : (echo0 ++ [0]).length = 69 := by simp [echo0_len]
  refine CallP.mono (get_bare own5.at (by rw [h69]; decide) (by rw [h69]; decide) h0 h0_ok echo1_head echo1_bad rfl h0_rep rfl (by kernel_rfl)) ?_
  rintro r W6 ⟨u6, rfl⟩
  have hu6 := hu5.trans u6
  have hm6 := u6.get hm5 (by simp [noB])
  have hq6 := u6.get hq5 (by simp [noB])
  rw [if_neg (by rw [h69]; decide)]
  clear hu5 hu4 u5 u6 hm5 hm4 hq5 hq4 hrun own5 hs4 hd4
  simp [go_sem, hm6]
  refine gen_load ?_
  intro W7 hW
  have hsz6 := (old_ne hm6).1
  have hsq6 := (old_ne hq6).1
  have hu7 : Upd noB w W7 := by rw [hW]; exact (hu6.alloc _).setB _ _ (fun h => absurd h (by have := hu6.size; omega))
  have hm7 : W7.heap[b]? = some (.cells (bareM h0).cells 41 (0, 0)) := by rw [hW, heap_setB, if_neg (by omega), heap_alloc, if_neg (by omega)]; exact hm6
  have hq7 : W7.heap[bq]? = some (.cells (bareM h0).cells 41 (0, 0)) := by rw [hW, heap_setB, if_neg (by omega), heap_alloc, if_neg (by omega)]; exact hq6
  clear hW hu6 hm6 hq6
  simp [go_sem, hm7]
  show CallP Tryz.prog 21 #[.agg h0.cells, .int .i64 15] W7 _
  refine CallP.mono (answer_any h0 15 h0_ok W7) ?_
  rintro r W8 ⟨rfl, u8⟩
  have hu8 := hu7.trans u8
  have hm8 := u8.get hm7 (by simp [noB])
  have hq8 := u8.get hq7 (by simp [noB])
  clear u8 hm7 hq7 hu7
  simp [go_sem]
  refine gen_call ?_
  intro W9 hW
  have hsz8 := (old_ne hm8).1
  have hsq8 := (old_ne hq8).1
  have hu9 : Upd noB w W9 := by rw [hW]; exact (hu8.alloc _).setB _ _ (fun h => absurd h (by have := hu8.size; omega))
  have hm9 : W9.heap[b]? = some (.cells (bareM h0).cells 41 (0, 0)) := by rw [hW, heap_setB, if_neg (by omega), heap_alloc, if_neg (by omega)]; exact hm8
  have hq9 : W9.heap[bq]? = some (.cells (bareM h0).cells 41 (0, 0)) := by rw [hW, heap_setB, if_neg (by omega), heap_alloc, if_neg (by omega)]; exact hq8
  have hh9 : W9.heap[W8.heap.size]? = some (.cells (ansL h0 15).cells 28 (0, 0)) := by rw [hW, heap_setB, if_pos rfl, heap_alloc, if_pos rfl]; rfl
  obtain ⟨bh, hbh⟩ : ∃ bh, bh = W8.heap.size := ⟨_, rfl⟩
  rw [← hbh] at hh9 ⊢
  clear hW hu8 hm8 hq8
  show CallP Tryz.prog 12 #[.agg (bareM (ansL h0 15)).cells] W9 _
  refine CallP.mono (put_bare (ansL h0 15) (ansL_ok h0 15 h0_ok) (by decide) rfl rfl (fun _ => by decide) W9) ?_
  rintro r W10 ⟨v10, rfl, u10, own10⟩
  have hu10 := hu9.trans u10
  have hm10 := u10.get hm9 (by simp [noB])
  have hq10 := u10.get hq9 (by simp [noB])
  have hh10 := u10.get hh9 (by simp [noB])
  obtain ⟨p10, cap10, rfl, _⟩ := own10.at.len
  have e68 : (headB (ansL h0 15) ++ [0, 0, 0, 0]).length = 68 := by simp [headB_len]
  rw [e68]
  clear hu9 u10 hm9 hq9 hh9
  simp [go_sem, hm10, hq10]
  refine CallP.mono (same_bare h0 W10) ?_
  rintro r W11 ⟨rfl, u11⟩
  have hu11 := hu10.trans u11
  have hh11 := u11.get hh10 (by simp [noB])
  have ef : (ansL h0 15).status = 15 := by decide
  have ei : (ansL h0 15).id = 1 := by decide
  simp [go_sem, hh11, ef, ei]
  exact hu11
end Go.Proofs.YtinfdomlpbikaaaGreatDoor
namespace Go.Proofs.YtinfdomlpbikaaaGreatDoor
open Go.Eng
set_option linter.unusedSimpArgs false
set_option linter.unusedVariables false
set_option maxRecDepth 100000
variable {w w0 : World}
end Go.Proofs.YtinfdomlpbikaaaGreatDoor
namespace Go.Eng.Tr
open Go Go.Eng
set_option linter.unusedSimpArgs false
set_option linter.unusedVariables false
section
variable {P : Program}
inductive Tr where
  | done
  | pure (i : Nat) (t : Tr)
  | one (i : Nat) (t : Tr)
  | two (i : Nat) (t : Tr) (j : Nat) (u : Tr)
def quietK : Op → Bool
  | .call ⟨.builtin .len, _, _⟩ => true
  | op => readK op
def quietOp (ops : Array Oper) (i : Nat) : Bool :=
  match ops[i]? with
  | some o => quietK o.op
  | none => false
def Tr.len : Tr → Nat
  | .done => 0
  | .pure _ t => 1 + t.len
  | .one _ t => 1 + t.len
  | .two _ t _ _ => 1 + t.len
def chk (md : Region.Mode) (ops : Array Oper) : Tr → Array Bool → Bool
  | .done, listed => (Region.ready md ops listed).isEmpty
  | .pure i t, listed => (Region.ready md ops listed).contains i && Region.free md ops listed i && quietOp ops i && chk md ops t (listed.setIfInBounds i true)
  | .one i t, listed => decide (Region.ready md ops listed = [i]) && chk md ops t (listed.setIfInBounds i true)
  | .two i t j u, listed => decide (Region.ready md ops listed = [i, j]) && decide (t.len = u.len) && chk md ops t (listed.setIfInBounds i true) && chk md ops u (listed.setIfInBounds j true)
abbrev AnyW := { w : World // True }
instance : Nonempty AnyW := ⟨⟨default, trivial⟩⟩
def opsT (P : Program) (all : List Oper) (K : Env → World → Prop) : Tr → Env → World → Prop
  | .done, ρ, w => K ρ w
  | .pure i t, ρ, w => opsQ P (fun i : AnyW => i.1) (fun ρ' => opsT P all K t ρ' w) (strip all ((all[i]?).toList)) ρ
  | .one i t, ρ, w => opsS P (fun ρ' w' => opsT P all K t ρ' w') (strip all ((all[i]?).toList)) ρ w
  | .two i t j u, ρ, w => opsS P (fun ρ' w' => opsT P all K t ρ' w') (strip all ((all[i]?).toList)) ρ w ∧ opsS P (fun ρ' w' => opsT P all K u ρ' w') (strip all ((all[j]?).toList)) ρ w
theorem opsT_nil {all : List Oper} {K : Env → World → Prop} {ρ : Env} {w : World} : opsT P all K .done ρ w = K ρ w := (rfl)
def contT (P : Program) (all : List Oper) (K : Env → World → Prop) (t : Tr) (w : World) (ρ : Env) : Prop := opsT P all K t ρ w
theorem contT_app {all : List Oper} {K : Env → World → Prop} {t : Tr} {ρ : Env} {w : World} : contT P all K t w ρ = opsT P all K t ρ w := (rfl)
theorem opsT_pure {all : List Oper} {K : Env → World → Prop} {t : Tr} {ρ : Env} {w : World} (i : Nat) : opsT P all K (.pure i t) ρ w = opsQ P (fun i : AnyW => i.1) (contT P all K t w) (strip all ((all[i]?).toList)) ρ := (rfl)
theorem opsT_one {all : List Oper} {K : Env → World → Prop} {t : Tr} {ρ : Env} {w : World} (i : Nat) : opsT P all K (.one i t) ρ w = opsS P (opsT P all K t) (strip all ((all[i]?).toList)) ρ w := (rfl)
end
attribute [go_sem] opsT_nil contT_app opsT_pure opsT_one
end Go.Eng.Tr
