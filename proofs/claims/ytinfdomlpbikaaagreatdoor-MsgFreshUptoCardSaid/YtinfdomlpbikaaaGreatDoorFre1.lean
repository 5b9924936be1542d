/-
  The engine of this seat's proofs: a denotation of the program's code over a plain environment (slot ↦ value), and its soundness: whatever holds of the denotation holds of the run.
  What each operation of the program comes to, over the engine's environment.
  Memory by blocks, and maps whose keys are ints: what the operations do to them.
  From the engine's frame ('Upd') to the row's: what a law leaves behind.
  Slices of the call's own, by one word on their types.
  Arguments: a slice that came in, as rows of cells; read again behind the call.
  Regions that draw their order: one walk of the text's order serves them all, where each operation leaves the world alone.
  Rows of bytes, and numbers as bytes: plain laws, and what the operations do to them.
  Heads: what a head's functions come to.
-/
import Derived.WalkKit
import Derived.Deep.Quiet
import Derived.StillTail
import Derived.WalkSpells
import Derived.ProofKit
import Derived.ChangeSame
import Derived.Deep.Slices
import Derived.Carry
import Derived.OpenShut
import Derived.OrdersHeld
import Derived.Test.YtinfdomlpbikaaaGreatDoorProg
import Derived.ChangeKeysEq
namespace Go.Eng
set_option linter.unusedSimpArgs false
open Go

abbrev Env := Nat → Value
def putE (ρ : Env) : Option Tmp → Value → Env
  | none, _ => ρ
  | some d, v => fun j => if j = d then v else ρ j
def evE (ρ : Env) : Operand → Value
  | .tmp t => ρ t
  | .const v => v
  | .global g => .pointer (some ⟨g, 0, none⟩)
  | .func f => .func (.func f) #[] #[]
def envOf (a : Act) : Env := fun j => a.tmps.getD j undef
def yieldE (ops : Array Oper) (ρ : Env) (j : Nat) : Option Bool :=
  match (ops[j]?).bind (·.dst) with
  | some d => (match ρ d with | .bool b => some b | _ => none)
  | none => none

theorem evE_envOf (a : Act) : evE (envOf a) = a.eval := by
  funext x; cases x <;> rfl
theorem yieldE_envOf (ops : Array Oper) (a : Act) : yieldE ops (envOf a) = yielded ops a.tmps := by
  funext j
  unfold yieldE yielded envOf
  cases h : (ops[j]?).bind (·.dst) with
  | none => simp
  | some d =>
    simp only [Option.bind_some]
    cases h2 : a.tmps[d]? with
    | none =>
      have : ¬ d < a.tmps.size := by exact Nat.not_lt.2 (Array.getElem?_eq_none_iff.1 h2)
      simp only [Array.getD, dif_neg this, undef]
    | some v =>
      have : a.tmps.getD d undef = v := by
        obtain ⟨hd, hv⟩ := Array.getElem?_eq_some_iff.1 h2
        simp [Array.getD, hd, hv]
      rw [this]
      cases v <;> rfl
theorem envOf_put (a : Act) (d : Option Tmp) (v : Value) (h : ∀ i, d = some i → i < a.tmps.size) :
    envOf (a.put d v) = putE (envOf a) d v := by
  cases d with
  | none => rfl
  | some d =>
    have hd := h d rfl
    funext j
    simp only [envOf, Act.put, putE]
    by_cases hj : j = d
    · subst hj; simp [Array.getD, hd]
    · simp only [if_neg hj, Array.getD]
      simp only [Array.size_setIfInBounds]
      split
      · rename_i hlt
        exact Array.getElem_setIfInBounds_ne hlt (Ne.symm hj)
      · rfl
theorem put_size (a : Act) (d : Option Tmp) (v : Value) : (a.put d v).tmps.size = a.tmps.size := by
  cases d <;> simp [Act.put]
theorem put_defers (a : Act) (d : Option Tmp) (v : Value) : (a.put d v).defers = a.defers := by
  cases d <;> rfl

/-- what follows an operation -/
def NextK (P : Program) (k : Value → World → Prop) : Result Next → Prop
  | .ok (.value v) w' => k v w'
  | .ok .skip w' => k undef w'
  | .ok (.enter f args) w' => Calls P f args w' fun e w'' => ∃ v, e = .returned v ∧ k v w''
  | .ok (.row r args) w' => Rows P r args w' k
  | _ => False
def RunK (P : Program) (s : Sem Next) (w : World) (k : Value → World → Prop) : Prop := NextK P k (s.run P w)

def opsE (P : Program) (ops : Array Oper) (K : Env → World → Prop) : List Oper → Env → World → Prop
  | [], ρ, w => K ρ w
  | o :: r, ρ, w =>
    if Region.wanted o (yieldE ops ρ) then RunK P (execOp (evE ρ) o) w (fun v w' => opsE P ops K r (putE ρ o.dst v) w')
    else opsE P ops K r (putE ρ o.dst undef) w

def thenE (next : Env → World → Prop) (K : Exit → Env → World → Prop) : Exit → Env → World → Prop
  | .normal => next
  | .exit id => K (.exit id)
  | .goto l => K (.goto l)
  | .ret => K .ret
  | .panic c => K (.panic c)
  | .outgrown => K .outgrown
def blockE (id : Nat) (K : Exit → Env → World → Prop) : Exit → Env → World → Prop
  | .normal => K .normal
  | .exit j => if j = id then K .normal else K (.exit j)
  | .goto l => K (.goto l)
  | .ret => K .ret
  | .panic c => K (.panic c)
  | .outgrown => K .outgrown
def CondE (c : Value) (t e : Prop) : Prop :=
  match c with
  | .bool b => if b then t else e
  | _ => False
/-- a loop: an invariant with a number that goes down -/
def LoopE (F : (Env → World → Prop) → Env → World → Prop) (ρ : Env) (w : World) : Prop :=
  ∃ (I : Nat → Env → World → Prop) (m : Nat), I m ρ w ∧ ∀ m ρ w, I m ρ w → F (fun ρ' w' => ∃ m', m' < m ∧ I m' ρ' w') ρ w
/-- the post of a code's run, over the environment -/
def liftK (n : Nat) (K : Exit → Env → World → Prop) : Exit → Act → World → Prop :=
  fun e a w => a.tmps.size = n ∧ a.defers = [] ∧ K e (envOf a) w
/-- code that the engine has no rule for: the run itself -/
def RawE (P : Program) (n : Nat) (c : Code) (K : Exit → Env → World → Prop) (ρ : Env) (w : World) : Prop :=
  ∀ a : Act, a.tmps.size = n → a.defers = [] → envOf a = ρ → c.wp P (liftK n K) a w
/-- a region that draws its order -/
def DrawE (P : Program) (n : Nat) (id : Nat) (ops : Array Oper) (K : Env → World → Prop) (ρ : Env) (w : World) : Prop :=
  RawE P n (.region id ops true) (thenE K fun _ _ _ => False) ρ w

def den (P : Program) (n : Nat) : Code → (Exit → Env → World → Prop) → Env → World → Prop
  | .skip, K, ρ, w => K .normal ρ w
  | .region _ ops false, K, ρ, w => opsE P ops (K .normal) ops.toList ρ w
  | .region id ops true, K, ρ, w => DrawE P n id ops (K .normal) ρ w
  | .seq a b, K, ρ, w => den P n a (thenE (den P n b K) K) ρ w
  | .cond c a b, K, ρ, w => CondE (evE ρ c) (den P n a K ρ w) (den P n b K ρ w)
  | .block id c, K, ρ, w => den P n c (blockE id K) ρ w
  | .loop c, K, ρ, w => LoopE (fun R => den P n c (thenE R K)) ρ w
  | .exit id, K, ρ, w => K (.exit id) ρ w
  | .ret, K, ρ, w => K .ret ρ w
  | .goto l, K, ρ, w => K (.goto l) ρ w
  | .label _, K, ρ, w => K .normal ρ w
  | c, K, ρ, w => RawE P n c K ρ w

def opsLt (n : Nat) (ops : Array Oper) : Bool := ops.toList.all fun o => match o.dst with | some d => decide (d < n) | none => true
def codeLt (n : Nat) : Code → Bool
  | .region _ ops false => opsLt n ops
  | .seq a b => codeLt n a && codeLt n b
  | .cond _ a b => codeLt n a && codeLt n b
  | .block _ c => codeLt n c
  | .loop c => codeLt n c
  | _ => true

theorem wpList_of_opsE {P : Program} {n : Nat} {ops : Array Oper} {K : Env → World → Prop} {Q : Exit → Act → World → Prop}
    (hQ : ∀ a w, a.tmps.size = n → a.defers = [] → K (envOf a) w → Q .normal a w) :
    ∀ (l : List Oper) (a : Act) (w : World), (∀ o ∈ l, ∀ d, o.dst = some d → d < n) → a.tmps.size = n → a.defers = [] →
      opsE P ops K l (envOf a) w → wpList P ops Q l a w := by
  intro l
  induction l with
  | nil => intro a w _ hs hd h; exact hQ a w hs hd h
  | cons o r ih =>
    intro a w hl hs hd h
    have hdst : ∀ i, o.dst = some i → i < a.tmps.size := fun i hi => by rw [hs]; exact hl o (by simp) i hi
    have hr : ∀ o' ∈ r, ∀ d, o'.dst = some d → d < n := fun o' ho' => hl o' (by simp [ho'])
    have next : ∀ v w', opsE P ops K r (putE (envOf a) o.dst v) w' → wpList P ops Q r (a.put o.dst v) w' := by
      intro v w' hh
      refine ih _ _ hr (by rw [put_size]; exact hs) (by rw [put_defers]; exact hd) ?_
      rw [envOf_put a o.dst v hdst]; exact hh
    simp only [opsE] at h
    refine wpList_step fun K' hK' => ?_
    rw [← yieldE_envOf]
    split at h
    · rename_i hw
      rw [if_pos hw]
      unfold RunK at h
      unfold Oper.wp
      rw [evE_envOf] at h
      generalize (execOp a.eval o).run P w = res at h ⊢
      cases res with
      | halt x w' => exact h.elim
      | ok nx w' =>
        cases nx <;> simp only [NextK] at h <;> simp only [Oper.upon]
        case value v => exact hK' _ _ (next v w' h)
        case skip => exact hK' _ _ (next undef w' h)
        case enter f args =>
          refine h.mono fun e w'' ⟨v, he, hk⟩ => ?_
          subst he
          exact hK' _ _ (next v w'' hk)
        case row rr args => exact h.mono fun v w'' hk => hK' _ _ (next v w'' hk)
    · rename_i hw
      rw [if_neg hw]
      exact hK' _ _ (next undef w h)

theorem opsLt_spec {n : Nat} {ops : Array Oper} (h : opsLt n ops = true) : ∀ o ∈ ops.toList, ∀ d, o.dst = some d → d < n := by
  intro o ho d hd
  have := List.all_eq_true.1 h o ho
  rw [hd] at this
  simpa using this

theorem least (p : Nat → Prop) : ∀ n, p n → ∃ m, p m ∧ ∀ k, k < m → ¬ p k := by
  intro n
  induction n using Nat.strongRecOn with
  | _ n ih =>
    intro hn
    by_cases h : ∃ k, k < n ∧ p k
    · obtain ⟨k, hk, hp⟩ := h
      exact ih k hk hp
    · exact ⟨n, hn, fun k hk hp => h ⟨k, hk, hp⟩⟩

theorem den_sound {P : Program} {n : Nat} : ∀ (c : Code) (K : Exit → Env → World → Prop) (a : Act) (w : World), codeLt n c = true → a.tmps.size = n → a.defers = [] →
    den P n c K (envOf a) w → c.wp P (liftK n K) a w
  | .skip, K, a, w, hc, hs, hd, h => wp_skip ⟨hs, hd, h⟩
  | .region id ops false, K, a, w, hc, hs, hd, h => by
    refine wp_region_list (wpList_of_opsE (n := n) (K := K .normal) (fun a w h1 h2 h3 => ⟨h1, h2, h3⟩) _ a w (opsLt_spec hc) hs hd h)
  | .region id ops true, K, a, w, hc, hs, hd, h =>
    wp_mono (h a hs hd rfl) fun e a w ⟨h1, h2, h3⟩ => ⟨h1, h2, by cases e <;> first | exact h3 | exact h3.elim⟩
  | .seq x y, K, a, w, hc, hs, hd, h => by
    simp only [codeLt, Bool.and_eq_true] at hc
    refine wp_seq (wp_mono (den_sound x _ a w hc.1 hs hd h) ?_)
    rintro e a w ⟨h1, h2, h3⟩
    cases e with
    | normal => exact den_sound y K a w hc.2 h1 h2 h3
    | _ => exact ⟨h1, h2, h3⟩
  | .cond c x y, K, a, w, hc, hs, hd, h => by
    simp only [codeLt, Bool.and_eq_true] at hc
    simp only [den, CondE, evE_envOf] at h
    split at h
    · rename_i b hb
      refine wp_cond hb ?_
      cases b with
      | true => exact den_sound x K a w hc.1 hs hd (by simpa using h)
      | false => exact den_sound y K a w hc.2 hs hd (by simpa using h)
    · exact h.elim
  | .block id c, K, a, w, hc, hs, hd, h => by
    refine wp_block (wp_mono (den_sound c _ a w hc hs hd h) ?_)
    rintro e a w ⟨h1, h2, h3⟩
    cases e with
    | exit j =>
      simp only [blockE, Exit.inBlock] at h3 ⊢
      split
      · rename_i hj; rw [if_pos hj] at h3; exact ⟨h1, h2, h3⟩
      · rename_i hj; rw [if_neg hj] at h3; exact ⟨h1, h2, h3⟩
    | _ => exact ⟨h1, h2, h3⟩
  | .loop c, K, a, w, hc, hs, hd, h => by
    obtain ⟨I, m, h0, hr⟩ := h
    have hmin : ∀ a w, (∃ m, I m (envOf a) w) → ∃ m, I m (envOf a) w ∧ ∀ k, k < m → ¬ I k (envOf a) w := fun a w ⟨m, hm⟩ => least _ m hm
    let μ : Act → World → Nat := fun a w => open Classical in if h : ∃ m, I m (envOf a) w then Classical.choose (hmin a w h) else 0
    have hμ : ∀ a w, (∃ m, I m (envOf a) w) → I (μ a w) (envOf a) w ∧ ∀ k, I k (envOf a) w → μ a w ≤ k := by
      intro a w he
      have hs := Classical.choose_spec (hmin a w he)
      have e : μ a w = Classical.choose (hmin a w he) := by simp only [μ]; rw [dif_pos he]
      rw [e]
      refine ⟨hs.1, fun k hk => ?_⟩
      rcases Nat.lt_or_ge k (Classical.choose (hmin a w he)) with hlt | hge
      · exact (hs.2 k hlt hk).elim
      · exact hge
    refine wp_loop (fun a w => a.tmps.size = n ∧ a.defers = [] ∧ ∃ m, I m (envOf a) w) μ ⟨hs, hd, m, h0⟩ ?_
    rintro a w ⟨hs, hd, hI⟩
    have h1 := hr (μ a w) (envOf a) w (hμ a w hI).1
    refine wp_mono (den_sound c _ a w hc hs hd h1) ?_
    rintro e a' w' ⟨h1, h2, h3⟩
    cases e with
    | normal =>
      obtain ⟨m', hlt, hI'⟩ := h3
      exact ⟨⟨h1, h2, m', hI'⟩, Nat.lt_of_le_of_lt ((hμ a' w' ⟨m', hI'⟩).2 m' hI') hlt⟩
    | _ => exact ⟨h1, h2, h3⟩
  | .exit id, K, a, w, hc, hs, hd, h => wp_exit ⟨hs, hd, h⟩
  | .ret, K, a, w, hc, hs, hd, h => wp_ret ⟨hs, hd, h⟩
  | .goto l, K, a, w, hc, hs, hd, h => wp_goto ⟨hs, hd, h⟩
  | .label l, K, a, w, hc, hs, hd, h => wp_label ⟨hs, hd, h⟩
  | .scope c, K, a, w, hc, hs, hd, h => h a hs hd rfl
  | .rangeFunc f ps x c, K, a, w, hc, hs, hd, h => h a hs hd rfl
  | .refuse s, K, a, w, hc, hs, hd, h => h a hs hd rfl

/-- the results, off the environment -/
def resE (fn : Func) (ρ : Env) : Sem Value := do
  let vs ← fn.results.mapM fun
    | .tmp t => pure (ρ t)
    | .cell a t => do loadVar t (← asAddr (ρ a))
  pure (if h : vs.size = 1 then vs[0] else .tuple vs)
def retK (P : Program) (fn : Func) (k : Value → World → Prop) : Exit → Env → World → Prop
  | .normal, ρ, w | .ret, ρ, w => ∃ v, (resE fn ρ).run P w = .ok v w ∧ k v w
  | _, _, _ => False
/-- a call that returns -/
def CallP (P : Program) (f : FuncId) (args : Array Value) (w : World) (k : Value → World → Prop) : Prop :=
  Calls P f args w fun e w' => ∃ v, e = .returned v ∧ k v w'
theorem CallP.mono {P : Program} {f : FuncId} {args : Array Value} {w : World} {k k' : Value → World → Prop} (h : CallP P f args w k) (hk : ∀ v w', k v w' → k' v w') : CallP P f args w k' :=
  Calls.mono h fun _ _ ⟨v, he, hv⟩ => ⟨v, he, hk _ _ hv⟩
def argE (args : List Value) : Env := fun j => (args[j]?).getD undef

theorem call_den {P : Program} {f : FuncId} {fn : Func} {c : Code} {args : List Value} {w : World} {k : Value → World → Prop}
    (hf : P.funcs[f]? = some fn) (hb : fn.body = some c) (hc : codeLt fn.ntmps c = true) (hn : args.length ≤ fn.ntmps)
    (h : den P fn.ntmps c (retK P fn k) (argE args) w) : CallP P f args.toArray w k := by
  refine calls_of_wp hf hb ?_
  have hs : (args.toArray ++ Array.replicate (fn.ntmps - args.toArray.size) undef).size = fn.ntmps := by simp; omega
  have henv : envOf { tmps := args.toArray ++ Array.replicate (fn.ntmps - args.toArray.size) undef, defers := [] } = argE args := by
    funext j
    simp only [envOf, argE, Array.getD_eq_getD_getElem?]
    rcases Nat.lt_or_ge j args.length with hj | hj
    · rw [Array.getElem?_append_left (by simpa using hj)]; simp
    · rw [Array.getElem?_append_right (by simpa using hj)]
      simp only [List.size_toArray, Array.getElem?_replicate, List.getElem?_eq_none hj]
      split <;> rfl
  refine wp_mono (den_sound c (retK P fn k) _ w hc hs rfl (by rw [henv]; exact h)) ?_
  rintro e a w ⟨h1, h2, h3⟩
  have hres : ∀ a : Act, resE fn (envOf a) = results fn a.tmps := fun a => rfl
  cases e with
  | normal => obtain ⟨v, hv, hk⟩ := h3; exact ⟨h2, v, hv, v, rfl, hk⟩
  | ret => obtain ⟨v, hv, hk⟩ := h3; exact ⟨h2, v, hv, v, rfl, hk⟩
  | _ => exact h3.elim
end Go.Eng
namespace Go.Eng
set_option linter.unusedSimpArgs false
open Go
section
variable {P : Program}

def ValR (k : Value → World → Prop) : Result Value → Prop
  | .ok v w => k v w
  | .halt _ _ => False
def UnitR (k : World → Prop) : Result Unit → Prop
  | .ok _ w => k w
  | .halt _ _ => False
@[simp] theorem ValR_ok (k : Value → World → Prop) (v : Value) (w : World) : ValR k (.ok v w) = k v w := (rfl)
@[simp] theorem UnitR_ok (k : World → Prop) (w : World) : UnitR k (.ok () w) = k w := (rfl)
/-- a value's operation -/
def ValK (P : Program) (s : Sem Value) (w : World) (k : Value → World → Prop) : Prop := ValR k (s.run P w)
def UnitK (P : Program) (s : Sem Unit) (w : World) (k : World → Prop) : Prop := UnitR k (s.run P w)

theorem NextK_v (s : Sem Value) (w : World) (k : Value → World → Prop) : RunK P (do pure (.value (← s))) w k = ValK P s w k := by
  unfold RunK ValK
  simp only [Sem.run_bind]
  cases s.run P w <;> rfl
theorem NextK_u (s : Sem Unit) (w : World) (k : Value → World → Prop) : RunK P (do s; pure .skip) w k = UnitK P s w (k undef) := by
  unfold RunK UnitK
  simp only [Sem.run_bind]
  cases s.run P w <;> rfl

/-! ### the environment -/
theorem evE_tmp (ρ : Env) (t : Tmp) : evE ρ (.tmp t) = ρ t := (rfl)
theorem evE_const (ρ : Env) (v : Value) : evE ρ (.const v) = v := (rfl)
theorem evE_func (ρ : Env) (f : FuncId) : evE ρ (.func f) = .func (.func f) #[] #[] := (rfl)
theorem putE_none (ρ : Env) (v : Value) : putE ρ none v = ρ := (rfl)
theorem putE_at (ρ : Env) (d : Tmp) (v : Value) (j : Nat) : putE ρ (some d) v j = if j = d then v else ρ j := (rfl)
theorem argE_nil (j : Nat) : argE [] j = undef := by simp [argE]
theorem argE_cons (v : Value) (l : List Value) (j : Nat) : argE (v :: l) j = if j = 0 then v else argE l (j - 1) := by
  cases j with
  | zero => simp [argE]
  | succ j => simp [argE]

/-! ### regions in the text's order -/
/-- an operation, stripped: its slot, what it does, its type, the slot of its guard -/
structure SOp where
  dst : Option Tmp
  op : Op
  ty : TypeId
  guard : Option (Option Tmp × Bool)
def dstOf : Nat → List Oper → Option Tmp
  | _, [] => none
  | 0, o :: _ => o.dst
  | j + 1, _ :: r => dstOf j r
def strip (all : List Oper) : List Oper → List SOp
  | [] => []
  | ⟨d, op, t, _, _, none⟩ :: r => ⟨d, op, t, none⟩ :: strip all r
  | ⟨d, op, t, _, _, some (j, b)⟩ :: r => ⟨d, op, t, some (dstOf j all, b)⟩ :: strip all r
def RunO (P : Program) (op : Op) (ty : TypeId) (e : Operand → Value) (w : World) (k : Value → World → Prop) : Prop :=
  RunK P (execOp e ⟨none, op, ty, "", #[], none⟩) w k
/-- a guard's outcome: 'c' is what the guard's own slot holds -/
def GuardE (c : Value) (want : Bool) (t e : Prop) : Prop :=
  match c with
  | .bool b => if b == want then t else e
  | _ => e
def GuardO (o : Option Tmp) (ρ : Env) (want : Bool) (t e : Prop) : Prop :=
  match o with
  | some dj => GuardE (ρ dj) want t e
  | none => e
def opsS (P : Program) (K : Env → World → Prop) : List SOp → Env → World → Prop
  | [], ρ, w => K ρ w
  | ⟨d, op, t, none⟩ :: r, ρ, w => RunO P op t (evE ρ) w (fun v w' => opsS P K r (putE ρ d v) w')
  | ⟨d, op, t, some (g, want)⟩ :: r, ρ, w => GuardO g ρ want (RunO P op t (evE ρ) w (fun v w' => opsS P K r (putE ρ d v) w')) (opsS P K r (putE ρ d undef) w)
variable {K : Env → World → Prop} {ρ : Env} {w : World}
theorem dstOf_eq (l : List Oper) : ∀ j, (l.toArray[j]?).bind (·.dst) = dstOf j l := by
  induction l with
  | nil => intro j; cases j <;> simp [dstOf]
  | cons o r ih => intro j; cases j with
    | zero => simp [dstOf]
    | succ j => have := ih j; simpa [dstOf] using this
theorem guard_key (c : Value) (want : Bool) (X Y : Prop) :
    (if ((match c with | .bool b => some b | _ => none : Option Bool) == some want) = true then X else Y) = GuardE c want X Y := by
  cases c with
  | bool b => cases b <;> cases want <;> rfl
  | _ => simp [GuardE]
theorem opsE_strip (all : List Oper) : ∀ (l : List Oper) (ρ : Env) (w : World), opsE P all.toArray K l ρ w = opsS P K (strip all l) ρ w := by
  intro l
  induction l with
  | nil => intro ρ w; rfl
  | cons o r ih =>
    intro ρ w
    obtain ⟨d, op, t, p, a, g⟩ := o
    have hx : ∀ e, execOp e ⟨d, op, t, p, a, g⟩ = execOp e ⟨none, op, t, "", #[], none⟩ := fun e => rfl
    cases g with
    | none =>
      simp only [opsE, strip, opsS, RunO, Region.wanted, ih, hx, if_true]
    | some g =>
      obtain ⟨j, want⟩ := g
      simp only [opsE, strip, opsS, RunO, Region.wanted, ih, hx, yieldE, dstOf_eq, GuardO]
      cases dstOf j all with
      | none => simp
      | some dj =>
        exact guard_key _ _ _ _
theorem den_region (n id : Nat) (l : List Oper) (K : Exit → Env → World → Prop) : den P n (.region id l.toArray false) K ρ w = opsS P (K .normal) (strip l l) ρ w := by
  simp only [den, opsE_strip]
theorem opsS_nil : opsS P K [] ρ w = K ρ w := (rfl)
/-- what follows an operation of slot 'd' -/
def contS (P : Program) (K : Env → World → Prop) (r : List SOp) (ρ : Env) (d : Option Tmp) : Value → World → Prop := fun v w' => opsS P K r (putE ρ d v) w'
theorem contS_app (r : List SOp) (d : Option Tmp) (v : Value) : contS P K r ρ d v w = opsS P K r (putE ρ d v) w := (rfl)
theorem opsS_plain (d : Option Tmp) (op : Op) (t : TypeId) (r : List SOp) :
    opsS P K (⟨d, op, t, none⟩ :: r) ρ w = RunO P op t (evE ρ) w (contS P K r ρ d) := (rfl)
theorem opsS_guard (d : Option Tmp) (op : Op) (t : TypeId) (r : List SOp) (g : Tmp) (want : Bool) :
    opsS P K (⟨d, op, t, some (some g, want)⟩ :: r) ρ w = GuardE (ρ g) want (RunO P op t (evE ρ) w (contS P K r ρ d)) (opsS P K r (putE ρ d undef) w) := (rfl)
theorem guard_t (d : Option Tmp) (op : Op) (t : TypeId) (r : List SOp) (g : Tmp) (want : Bool) (h : ρ g = .bool want) :
    opsS P K (⟨d, op, t, some (some g, want)⟩ :: r) ρ w = RunO P op t (evE ρ) w (contS P K r ρ d) := by
  rw [opsS_guard, h]; simp [GuardE]
theorem guard_f (d : Option Tmp) (op : Op) (t : TypeId) (r : List SOp) (g : Tmp) (want : Bool) (h : ρ g = .bool !want) :
    opsS P K (⟨d, op, t, some (some g, want)⟩ :: r) ρ w = opsS P K r (putE ρ d undef) w := by
  rw [opsS_guard, h]; cases want <;> simp [GuardE]
theorem guard_u (d : Option Tmp) (op : Op) (t : TypeId) (r : List SOp) (g : Tmp) (want : Bool) (h : ρ g = undef) :
    opsS P K (⟨d, op, t, some (some g, want)⟩ :: r) ρ w = opsS P K r (putE ρ d undef) w := by
  rw [opsS_guard, h]; simp [GuardE, undef]
/-! ### the operations -/
section
variable (e : Operand → Value) (ty : TypeId) (k : Value → World → Prop)
theorem R_move (x : Operand) : RunO P (.move x) ty e w k = k (e x) w := (rfl)
theorem R_assign (x : Operand) : RunO P (.assign x) ty e w k = k (e x) w := (rfl)
theorem R_pick (c x y : Operand) (b : Bool) (h : e c = .bool b) : RunO P (.pick c x y) ty e w k = k (if b then e x else e y) w := by
  unfold RunO RunK
  simp only [execOp, Sem.run_bind, h]
  rfl
theorem R_pick_t (c x y : Operand) (h : e c = .bool true) : RunO P (.pick c x y) ty e w k = k (e x) w := by
  rw [R_pick e ty k c x y true h]; rfl
theorem R_pick_f (c x y : Operand) (h : e c = .bool false) : RunO P (.pick c x y) ty e w k = k (e y) w := by
  rw [R_pick e ty k c x y false h]; rfl
theorem R_alloc (t : TypeId) : RunO P (.alloc t) ty e w k = ValK P (Instr.alloc t true (.tuple #[])) w k := NextK_v _ _ _
theorem R_box (t : TypeId) (x : Operand) : RunO P (.box t x) ty e w k = k (.pointer (some ⟨w.heap.size, 0, none⟩)) (w.alloc (.cells (e x).cells t)) := (rfl)
theorem R_build (t : TypeId) (ps : Array (Nat × Operand)) : RunO P (.build t ps) ty e w k = ValK P (Instr.build t (ps.map fun (i, x) => (i, e x))) w k := NextK_v _ _ _
def K_buildSlice (P : Program) (t : TypeId) (n : Nat) (ps : Array (Nat × Value)) (w : World) (k : Value → World → Prop) : Prop := ValK P (Instr.buildSlice t n ps) w k
theorem K_buildSlice_ok (t : TypeId) (n : Nat) (ps : Array (Nat × Value)) {w' : World} {v : Value} (h : (Instr.buildSlice t n ps).run P w = .ok v w') : K_buildSlice P t n ps w k = k v w' := by unfold K_buildSlice ValK; rw [h]; rfl
theorem R_buildSlice (t : TypeId) (n : Nat) (ps : Array (Nat × Operand)) : RunO P (.buildSlice t n ps) ty e w k = K_buildSlice P t n (ps.map fun (i, x) => (i, e x)) w k := NextK_v _ _ _
def K_load (P : Program) (t : TypeId) (x : Value) (w : World) (k : Value → World → Prop) : Prop := ValK P (Instr.loadAt t x) w k
theorem K_load_ok (t : TypeId) (x : Value) {w' : World} {v : Value} (h : (Instr.loadAt t x).run P w = .ok v w') : K_load P t x w k = k v w' := by unfold K_load ValK; rw [h]; rfl
theorem run_load1 (t : TypeId) (a : Addr) {v : Value} (ha : (isAgg t).run P w = .ok false w) (hv : w.cell? a = some v) : (Instr.loadAt t (.pointer (some a))).run P w = .ok v w := by
  simp only [Instr.loadAt, Instr.sureAddr, Sem.run_bind, Sem.run_pure, Result.andThen_ok, loadVar, ha, Bool.false_eq_true, if_false, run_load, hv]
theorem K_load_1 (t : TypeId) (a : Addr) {v : Value} (ha : (isAgg t).run P w = .ok false w) (hv : w.cell? a = some v) : K_load P t (.pointer (some a)) w k = k v w := K_load_ok k t _ (run_load1 t a ha hv)
theorem R_load (t : TypeId) (x : Operand) : RunO P (.load t x) ty e w k = K_load P t (e x) w k := NextK_v _ _ _
def K_store (P : Program) (t : TypeId) (x y : Value) (w : World) (k : World → Prop) : Prop := UnitK P (Instr.storeAt t x y) w k
theorem K_store_ok (t : TypeId) (x y : Value) {w' : World} {k : World → Prop} (h : (Instr.storeAt t x y).run P w = .ok () w') : K_store P t x y w k = k w' := by unfold K_store UnitK; rw [h]; rfl
theorem R_store (t : TypeId) (x y : Operand) : RunO P (.store t x y) ty e w k = K_store P t (e x) (e y) w (k undef) := NextK_u _ _ _
def NilK (P : Program) (v : Value) (w : World) (k : Value → World → Prop) : Prop :=
  RunK P (execOp (fun _ => v) ⟨none, .nilCheck (.const v), 0, "", #[], none⟩) w k
theorem NilK_ptr (q : Addr) : NilK P (.pointer (some q)) w k = k (.pointer (some q)) w := (rfl)
theorem R_nilCheck (x : Operand) : RunO P (.nilCheck x) ty e w k = NilK P (e x) w k := (rfl)
theorem R_binOp (op : BinOp) (t : TypeId) (x y : Operand) (u : TypeId) : RunO P (.binOp op t x y u) ty e w k = ValK P (do eqGuard op t x y (e x) (e y); binOp op t (e x) (e y)) w k := NextK_v _ _ _
theorem R_unOp (op : UnOp) (t : TypeId) (x : Operand) : RunO P (.unOp op t x) ty e w k = ValK P (Op.unary op (e x)) w k := NextK_v _ _ _
theorem R_convert (s t : TypeId) (x : Operand) : RunO P (.convert s t x) ty e w k = ValK P (convert s t (e x)) w k := NextK_v _ _ _
theorem R_makeInterface (t : TypeId) (x : Operand) : RunO P (.makeInterface t x) ty e w k = ValK P (Instr.makeInterface t (e x)) w k := NextK_v _ _ _
theorem R_makeFunc (f : Fn) (x y : Array Operand) : RunO P (.makeFunc f x y) ty e w k = k (.func f (x.map e) (y.map e)) w := (rfl)
theorem R_makeMap (t : TypeId) : RunO P (.makeMap t none) ty e w k = k (.map (some w.heap.size)) (w.alloc (.map #[] 0)) := (rfl)
def K_makeSlice (P : Program) (t : TypeId) (x y : Value) (w : World) (k : Value → World → Prop) : Prop := ValK P (Instr.makeSlice t x y) w k
theorem K_makeSlice_ok (t : TypeId) (x y : Value) {w' : World} {v : Value} (h : (Instr.makeSlice t x y).run P w = .ok v w') : K_makeSlice P t x y w k = k v w' := by unfold K_makeSlice ValK; rw [h]; rfl
theorem R_makeSlice (t : TypeId) (x y : Operand) : RunO P (.makeSlice t x y) ty e w k = K_makeSlice P t (e x) (e y) w k := NextK_v _ _ _
theorem R_slice (t : TypeId) (x : Operand) (lo hi mx : Option Operand) : RunO P (.slice t x lo hi mx) ty e w k = ValK P (Instr.sliceAt t (e x) (lo.map e) (hi.map e) (mx.map e)) w k := NextK_v _ _ _
theorem R_fieldAddr (t : TypeId) (x : Operand) (f : Nat) : RunO P (.fieldAddr t x f) ty e w k = ValK P (Instr.fieldAt t (e x) f) w k := NextK_v _ _ _
theorem R_field (t : TypeId) (x : Operand) (f : Nat) : RunO P (.field t x f) ty e w k = ValK P (Instr.field t (e x) f) w k := NextK_v _ _ _
theorem R_indexAddr (t : TypeId) (x y : Operand) : RunO P (.indexAddr t x y) ty e w k = ValK P (Instr.indexAt t (e x) (e y)) w k := NextK_v _ _ _
theorem R_index (t : TypeId) (x y : Operand) : RunO P (.index t x y) ty e w k = ValK P (Instr.index t (e x) (e y)) w k := NextK_v _ _ _
def K_lookup (P : Program) (t : TypeId) (x y : Value) (ok : Bool) (w : World) (k : Value → World → Prop) : Prop := ValK P (Instr.lookup t x y ok) w k
theorem R_lookup (t : TypeId) (x y : Operand) (ok : Bool) : RunO P (.lookup t x y ok) ty e w k = K_lookup P t (e x) (e y) ok w k := NextK_v _ _ _
def K_mapUpdate (P : Program) (t : TypeId) (x y z : Value) (w : World) (k : World → Prop) : Prop := UnitK P (Instr.mapUpdate t x y z) w k
theorem R_mapUpdate (t : TypeId) (x y z : Operand) : RunO P (.mapUpdate t x y z) ty e w k = K_mapUpdate P t (e x) (e y) (e z) w (k undef) := NextK_u _ _ _
theorem R_insert (t : TypeId) (x y z : Operand) : RunO P (.insert t x y z) ty e w k = K_mapUpdate P t (e x) (e y) (e z) w (k undef) := NextK_u _ _ _
def K_range (P : Program) (t : TypeId) (x : Value) (w : World) (k : Value → World → Prop) : Prop := ValK P (Instr.range t x) w k
theorem K_range_ok (t : TypeId) (x : Value) {w' : World} {v : Value} (h : (Instr.range t x).run P w = .ok v w') : K_range P t x w k = k v w' := by unfold K_range ValK; rw [h]; rfl
theorem R_range (t : TypeId) (x : Operand) : RunO P (.range t x) ty e w k = K_range P t (e x) w k := NextK_v _ _ _
def K_next (P : Program) (x : Value) (s : Bool) (ty : TypeId) (w : World) (k : Value → World → Prop) : Prop := ValK P (Instr.next x s ty) w k
theorem K_next_ok (x : Value) (s : Bool) (ty : TypeId) {w' : World} {v : Value} (h : (Instr.next x s ty).run P w = .ok v w') : K_next P x s ty w k = k v w' := by unfold K_next ValK; rw [h]; rfl
theorem R_next (x : Operand) (s : Bool) : RunO P (.next x s) ty e w k = K_next P (e x) s ty w k := NextK_v _ _ _
def K_entry (P : Program) (x : Value) (w : World) (k : Value → World → Prop) : Prop := ValK P (Instr.entry x) w k
theorem R_entry (x : Operand) : RunO P (.entry x) ty e w k = K_entry P (e x) w k := NextK_v _ _ _
theorem R_extract (x : Operand) (i : Nat) : RunO P (.extract x i) ty e w k = ValK P (Instr.extract (e x) i) w k := NextK_v _ _ _
/-- a call through a function's value -/
def CallV (P : Program) (f : Value) (args : Array Value) (w : World) (k : Value → World → Prop) : Prop :=
  RunK P (do let d ← Deferred.ofValue f args; invoke d.target d.args) w k
theorem R_call (f : Operand) (args : Array Operand) (ts : Array TypeId) : RunO P (.call ⟨.value f, args, ts⟩) ty e w k = CallV P (e f) (args.map e) w k := (rfl)
theorem CallV_func (f : FuncId) (first cap args : Array Value) (h : ∀ args w, (callFunc f args).run P w = .ok (.enter f args) w) :
    CallV P (.func (.func f) first cap) args w k = CallP P f (first ++ args ++ cap) w k := by
  unfold CallV RunK
  simp only [Deferred.ofValue, Sem.run_bind, Sem.run_pure, Result.andThen_ok, invoke, h]
  rfl
theorem R_builtin (b : Builtin) (args : Array Operand) (ts : Array TypeId) : RunO P (.call ⟨.builtin b, args, ts⟩) ty e w k =
    RunK P (builtin b ts ty (args.map fun | .const _ => true | _ => false) (args.map e)) w k := by
  unfold RunO RunK
  simp only [execOp, resolve, Sem.run_bind, Sem.run_pure, Result.andThen_ok, invoke]
  rfl
def K_append (P : Program) (ts : Array TypeId) (ty : TypeId) (args : Array Value) (w : World) (k : Value → World → Prop) : Prop := ValK P (Builtin.append_ ts ty args) w k
theorem K_append_ok (ts : Array TypeId) (args : Array Value) {w' : World} {v : Value} (h : (Builtin.append_ ts ty args).run P w = .ok v w') : K_append P ts ty args w k = k v w' := by unfold K_append ValK; rw [h]; rfl
theorem B_append (ts : Array TypeId) (cs : Array Bool) (args : Array Value) : RunK P (builtin .append ts ty cs args) w k = K_append P ts ty args w k := NextK_v _ _ _
theorem B_cap (ts : Array TypeId) (cs : Array Bool) (args : Array Value) : RunK P (builtin .cap ts ty cs args) w k = ValK P (Builtin.cap_ ts ty args) w k := NextK_v _ _ _
def K_clear (P : Program) (ts : Array TypeId) (ty : TypeId) (args : Array Value) (w : World) (k : Value → World → Prop) : Prop := ValK P (Builtin.clear_ ts ty args) w k
theorem B_clear (ts : Array TypeId) (cs : Array Bool) (args : Array Value) : RunK P (builtin .clear ts ty cs args) w k = K_clear P ts ty args w k := NextK_v _ _ _
def K_copy (P : Program) (ts : Array TypeId) (ty : TypeId) (args : Array Value) (w : World) (k : Value → World → Prop) : Prop := ValK P (Builtin.copy_ ts ty args) w k
theorem K_copy_ok (ts : Array TypeId) (args : Array Value) {w' : World} {v : Value} (h : (Builtin.copy_ ts ty args).run P w = .ok v w') : K_copy P ts ty args w k = k v w' := by unfold K_copy ValK; rw [h]; rfl
theorem B_copy (ts : Array TypeId) (cs : Array Bool) (args : Array Value) : RunK P (builtin .copy ts ty cs args) w k = K_copy P ts ty args w k := NextK_v _ _ _
def K_delete (P : Program) (ts : Array TypeId) (ty : TypeId) (args : Array Value) (w : World) (k : Value → World → Prop) : Prop := ValK P (Builtin.delete_ ts ty args) w k
theorem B_delete (ts : Array TypeId) (cs : Array Bool) (args : Array Value) : RunK P (builtin .delete ts ty cs args) w k = K_delete P ts ty args w k := NextK_v _ _ _
theorem B_len (ts : Array TypeId) (cs : Array Bool) (args : Array Value) : RunK P (builtin .len ts ty cs args) w k = ValK P (Builtin.len_ ts ty args) w k := NextK_v _ _ _
theorem B_max (ts : Array TypeId) (cs : Array Bool) (args : Array Value) : RunK P (builtin .max ts ty cs args) w k = ValK P (Builtin.max_ ts ty args) w k := NextK_v _ _ _
theorem B_min (ts : Array TypeId) (cs : Array Bool) (args : Array Value) : RunK P (builtin .min ts ty cs args) w k = ValK P (Builtin.min_ ts ty args) w k := NextK_v _ _ _
theorem R_append (ts : Array TypeId) (args : Array Operand) : RunO P (.call ⟨.builtin .append, args, ts⟩) ty e w k = K_append P ts ty (args.map e) w k := by rw [R_builtin, B_append]
theorem R_copy (ts : Array TypeId) (args : Array Operand) : RunO P (.call ⟨.builtin .copy, args, ts⟩) ty e w k = K_copy P ts ty (args.map e) w k := by rw [R_builtin, B_copy]
theorem R_delete (ts : Array TypeId) (args : Array Operand) : RunO P (.call ⟨.builtin .delete, args, ts⟩) ty e w k = K_delete P ts ty (args.map e) w k := by rw [R_builtin, B_delete]
theorem R_clear (ts : Array TypeId) (args : Array Operand) : RunO P (.call ⟨.builtin .clear, args, ts⟩) ty e w k = K_clear P ts ty (args.map e) w k := by rw [R_builtin, B_clear]
theorem R_cap (ts : Array TypeId) (args : Array Operand) : RunO P (.call ⟨.builtin .cap, args, ts⟩) ty e w k = ValK P (Builtin.cap_ ts ty (args.map e)) w k := by rw [R_builtin, B_cap]
theorem R_len (ts : Array TypeId) (args : Array Operand) : RunO P (.call ⟨.builtin .len, args, ts⟩) ty e w k = ValK P (Builtin.len_ ts ty (args.map e)) w k := by rw [R_builtin, B_len]
theorem R_max (ts : Array TypeId) (args : Array Operand) : RunO P (.call ⟨.builtin .max, args, ts⟩) ty e w k = ValK P (Builtin.max_ ts ty (args.map e)) w k := by rw [R_builtin, B_max]
theorem R_min (ts : Array TypeId) (args : Array Operand) : RunO P (.call ⟨.builtin .min, args, ts⟩) ty e w k = ValK P (Builtin.min_ ts ty (args.map e)) w k := by rw [R_builtin, B_min]
end
/-! ### code -/
section
variable (next : Env → World → Prop) (K : Exit → Env → World → Prop)
theorem then_normal : thenE next K .normal = next := (rfl)
theorem then_exit (i : Nat) : thenE next K (.exit i) = K (.exit i) := (rfl)
theorem then_ret : thenE next K .ret = K .ret := (rfl)
theorem then_goto (i : Nat) : thenE next K (.goto i) = K (.goto i) := (rfl)
theorem block_normal (i : Nat) : blockE i K .normal = K .normal := (rfl)
theorem block_exit (i j : Nat) : blockE i K (.exit j) = if j = i then K .normal else K (.exit j) := (rfl)
theorem block_ret (i : Nat) : blockE i K .ret = K .ret := (rfl)
theorem block_goto (i j : Nat) : blockE i K (.goto j) = K (.goto j) := (rfl)
end
section
variable (n : Nat) (K : Exit → Env → World → Prop) (ρ : Env) (w : World)
theorem den_skip : den P n .skip K ρ w = K .normal ρ w := (rfl)
theorem den_draw (id : Nat) (ops : Array Oper) : den P n (.region id ops true) K ρ w = DrawE P n id ops (K .normal) ρ w := (rfl)
theorem den_seq (a b : Code) : den P n (.seq a b) K ρ w = den P n a (thenE (den P n b K) K) ρ w := (rfl)
theorem den_cond_t (c : Operand) (a b : Code) (h : evE ρ c = .bool true) : den P n (.cond c a b) K ρ w = den P n a K ρ w := by
  simp [den, CondE, h]
theorem den_cond_f (c : Operand) (a b : Code) (h : evE ρ c = .bool false) : den P n (.cond c a b) K ρ w = den P n b K ρ w := by
  simp [den, CondE, h]
theorem den_block (id : Nat) (c : Code) : den P n (.block id c) K ρ w = den P n c (blockE id K) ρ w := (rfl)
theorem den_exit (id : Nat) : den P n (.exit id) K ρ w = K (.exit id) ρ w := (rfl)
theorem den_ret : den P n .ret K ρ w = K .ret ρ w := (rfl)
end
/-- a loop: the invariant's number goes down -/
theorem den_loop {n : Nat} {K : Exit → Env → World → Prop} {ρ : Env} {w : World} {c : Code} (I : Nat → Env → World → Prop) (m : Nat) (h0 : I m ρ w)
    (h : ∀ m ρ w, I m ρ w → den P n c (thenE (fun ρ' w' => ∃ m', m' < m ∧ I m' ρ' w') K) ρ w) : den P n (.loop c) K ρ w :=
  ⟨I, m, h0, h⟩

/-! ### the results -/
def RetR (P : Program) (rs : Array ResultVar) (ρ : Env) (w : World) (k : Value → World → Prop) : Prop :=
  ∃ v, (do
    let vs ← rs.mapM fun
      | .tmp t => pure (ρ t)
      | .cell a t => do loadVar t (← asAddr (ρ a))
    pure (if h : vs.size = 1 then vs[0] else .tuple vs) : Sem Value).run P w = .ok v w ∧ k v w
section
variable (fn : Func) (ρ : Env) (w : World) (k : Value → World → Prop)
theorem retK_ret : retK P fn k .ret ρ w = RetR P fn.results ρ w k := (rfl)
theorem retK_normal : retK P fn k .normal ρ w = RetR P fn.results ρ w k := (rfl)
theorem RetR_0 : RetR P #[] ρ w k = k (.tuple #[]) w := by simp [RetR]
theorem RetR_1 (t : Tmp) : RetR P #[.tmp t] ρ w k = k (ρ t) w := by simp [RetR]
theorem RetR_2 (t u : Tmp) : RetR P #[.tmp t, .tmp u] ρ w k = k (.tuple #[ρ t, ρ u]) w := by simp [RetR]
theorem RetR_3 (t u v : Tmp) : RetR P #[.tmp t, .tmp u, .tmp v] ρ w k = k (.tuple #[ρ t, ρ u, ρ v]) w := by simp [RetR]
theorem RetR_4 (t u v x : Tmp) : RetR P #[.tmp t, .tmp u, .tmp v, .tmp x] ρ w k = k (.tuple #[ρ t, ρ u, ρ v, ρ x]) w := by simp [RetR]
end
end
attribute [go_sem] den_region  den_skip  den_draw  den_seq  den_cond_t  den_cond_f  den_block  den_exit  den_ret  strip  dstOf  opsS_nil  opsS_plain  guard_t  guard_f  guard_u  contS_app  R_move  R_assign  R_pick_t  R_pick_f  R_alloc  R_box  R_build  R_buildSlice  R_load  K_load_1  R_store  NilK_ptr  R_nilCheck  R_binOp  R_unOp  R_convert  R_makeInterface  R_makeFunc  R_makeMap  R_makeSlice  R_slice  R_fieldAddr  R_field  R_indexAddr  R_index  R_lookup  R_mapUpdate  R_insert  R_range  R_next  R_entry  R_extract  R_call  R_append R_copy R_delete R_clear R_cap R_len R_max R_min  evE_tmp  evE_const  evE_func  putE_none  putE_at  argE_nil  argE_cons  then_normal  then_exit  then_ret  then_goto  block_normal  block_exit  block_ret  block_goto  retK_ret  retK_normal  RetR_0  RetR_1  RetR_2  RetR_3  RetR_4  ValR_ok  UnitR_ok  CallV_func
attribute [go_sem] ValK UnitK
end Go.Eng
namespace Go.Eng
set_option linter.unusedSimpArgs false
open Go
/-! ### blocks -/
def cellIn : Option Obj → Nat → Option Value
  | some (.cells c _ _), o => c[o]?
  | _, _ => none
def frozenIn : Option Obj → Nat → Bool
  | some (.cells _ _ (lo, hi)), o => decide (lo ≤ o) && decide (o < hi)
  | _, _ => false
def putIn (a : Addr) (v : Value) : Obj → Obj
  | .cells c e f => .cells (if a.spot.isSome then c else c.setIfInBounds a.off v) e f
  | o => o
theorem cell?_at (w : World) (b o : Nat) : w.cell? ⟨b, o, none⟩ = cellIn (w.heap[b]?) o := by
  simp only [World.cell?, cellIn]
  cases w.heap[b]? with
  | none => rfl
  | some x => cases x <;> rfl
theorem frozen?_at (w : World) (b o : Nat) : w.frozen? ⟨b, o, none⟩ = frozenIn (w.heap[b]?) o := by
  simp only [World.frozen?, frozenIn]
  cases w.heap[b]? with
  | none => rfl
  | some x => cases x <;> rfl
theorem cellIn_some (c : Array Value) (t : TypeId) (f : Nat × Nat) (o : Nat) : cellIn (some (.cells c t f)) o = c[o]? := (rfl)
theorem frozenIn_00 (c : Array Value) (t : TypeId) (o : Nat) : frozenIn (some (.cells c t (0, 0))) o = false := by simp [frozenIn]
theorem putIn_cells (b o : Nat) (v : Value) (c : Array Value) (t : TypeId) (f : Nat × Nat) : putIn ⟨b, o, none⟩ v (.cells c t f) = .cells (c.setIfInBounds o v) t f := (rfl)
theorem heap_alloc (w : World) (o : Obj) (b : Nat) : (w.alloc o).heap[b]? = if b = w.heap.size then some o else w.heap[b]? := by
  simp only [World.alloc, Array.getElem?_push]
theorem heap_setCell (w : World) (a : Addr) (v : Value) (b : Nat) : (w.setCell a v).heap[b]? = if b = a.block then (w.heap[b]?).map (putIn a v) else w.heap[b]? := by
  simp only [World.setCell, Array.getElem?_modify]
  by_cases h : b = a.block
  · subst h
    simp only [if_true]
    cases w.heap[a.block]? with
    | none => rfl
    | some x => cases x <;> rfl
  · rw [if_neg h, if_neg (fun e => h e.symm)]
theorem heap_drew (w : World) (b : Nat) : w.drew.heap[b]? = w.heap[b]? := (rfl)
theorem heap_drewN (w : World) (n b : Nat) : (w.drewN n).heap[b]? = w.heap[b]? := (rfl)
/-- a block replaced (a map's, an iterator's) -/
def _root_.Go.World.setB (w : World) (b : Nat) (o : Obj) : World := { w with heap := w.heap.setIfInBounds b o }
theorem setB_eq (w : World) (b : Nat) (o : Obj) : ({ w with heap := w.heap.setIfInBounds b o } : World) = w.setB b o := (rfl)
theorem heap_setB (w : World) (b : Nat) (o : Obj) (b' : Nat) : (w.setB b o).heap[b']? = if b' = b then (w.heap[b']?).map (fun _ => o) else w.heap[b']? := by
  simp only [World.setB, Array.getElem?_setIfInBounds]
  by_cases h : b' = b
  · subst h
    simp only [if_true]
    by_cases h2 : b' < w.heap.size
    · simp [h2]
    · simp [h2]
  · rw [if_neg h, if_neg (fun e => h e.symm)]
theorem size_setB (w : World) (b : Nat) (o : Obj) : (w.setB b o).heap.size = w.heap.size := by simp [World.setB]
theorem old_ne {w : World} {b : Nat} {o : Obj} (h : w.heap[b]? = some o) : b < w.heap.size ∧ b ≠ w.heap.size ∧ ∀ i, b ≠ w.heap.size + i := by
  have hb := (Array.getElem?_eq_some_iff.1 h).1
  exact ⟨hb, by omega, fun i => by omega⟩

theorem setRow_setB (w : World) (b : Nat) (cs : Array Value) {c : Array Value} {te : TypeId} {f : Nat × Nat} (hb : w.heap[b]? = some (.cells c te f)) : w.setRow b cs = w.setB b (.cells cs te f) := by
  unfold World.setRow World.setB
  congr 1
  apply Array.ext_getElem?
  intro k
  have hlt := (Array.getElem?_eq_some_iff.1 hb).1
  simp only [Array.getElem?_modify, Array.getElem?_setIfInBounds]
  by_cases hk : b = k
  · subst hk; rw [if_pos rfl, if_pos rfl, hb, if_pos hlt]; rfl
  · rw [if_neg hk, if_neg hk]
theorem setCell_setB (w : World) (b o : Nat) (v : Value) {c : Array Value} {te : TypeId} {f : Nat × Nat} (hb : w.heap[b]? = some (.cells c te f)) : w.setCell ⟨b, o, none⟩ v = w.setB b (.cells (c.setIfInBounds o v) te f) := by
  unfold World.setCell World.setB
  congr 1
  apply Array.ext_getElem?
  intro k
  have hlt := (Array.getElem?_eq_some_iff.1 hb).1
  simp only [Array.getElem?_modify, Array.getElem?_setIfInBounds]
  by_cases hk : b = k
  · subst hk; rw [if_pos rfl, if_pos rfl, hb, if_pos hlt]; rfl
  · rw [if_neg hk, if_neg hk]
theorem one_bool (b : Bool) : (Value.bool b).oneCell' = true := (rfl)
theorem one_int (k : IntKind) (n : Int) : (Value.int k n).oneCell' = true := (rfl)
theorem one_string (s : ByteArray) : (Value.string s).oneCell' = true := (rfl)
theorem one_pointer (a : Option Addr) : (Value.pointer a).oneCell' = true := (rfl)
theorem one_slice (a : Option Addr) (n c : Nat) : (Value.slice a n c).oneCell' = true := (rfl)
theorem one_map (r : Option Nat) : (Value.map r).oneCell' = true := (rfl)
theorem one_func (f : Fn) (x y : Array Value) : (Value.func f x y).oneCell' = true := (rfl)
theorem one_nilFunc  : (Value.nilFunc ).oneCell' = true := (rfl)
theorem one_iface (t : TypeId) (v : Value) : (Value.iface t v).oneCell' = true := (rfl)
theorem one_nilIface  : (Value.nilIface ).oneCell' = true := (rfl)
/-- a part of a row -/
def cutIn : Option Obj → Nat → Nat → Option (List Value)
  | some (.cells c _ _), o, n => if o + n ≤ c.size then some ((c.toList.drop o).take n) else none
  | _, _, _ => none
theorem cutIn_some (c : Array Value) (te : TypeId) (f : Nat × Nat) (o n : Nat) : cutIn (some (.cells c te f)) o n = if o + n ≤ c.size then some ((c.toList.drop o).take n) else none := (rfl)
theorem cutIn_spec {x : Option Obj} {o n : Nat} {cs : List Value} (h : cutIn x o n = some cs) : ∃ c te f, x = some (.cells c te f) ∧ o + n ≤ c.size ∧ cs = (c.toList.drop o).take n := by
  unfold cutIn at h
  split at h
  · split at h
    · rename_i hle; cases h; exact ⟨_, _, _, rfl, hle, rfl⟩
    · cases h
  · cases h
/-- the place of a store -/
def putAt : Option Obj → Nat → Value → Option Obj
  | some (.cells c te (0, 0)), o, v => if o < c.size then some (.cells (c.setIfInBounds o v) te (0, 0)) else none
  | _, _, _ => none
theorem putAt_some (c : Array Value) (te : TypeId) (o : Nat) (v : Value) : putAt (some (.cells c te (0, 0))) o v = if o < c.size then some (.cells (c.setIfInBounds o v) te (0, 0)) else none := (rfl)
theorem putAt_spec {x : Option Obj} {o : Nat} {v : Value} {y : Obj} (h : putAt x o v = some y) : ∃ c te, x = some (.cells c te (0, 0)) ∧ o < c.size ∧ y = .cells (c.setIfInBounds o v) te (0, 0) := by
  unfold putAt at h
  split at h
  · split at h
    · rename_i hle; cases h; exact ⟨_, _, rfl, hle, rfl⟩
    · cases h
  · cases h
/-- .. of a store of many cells -/
def putsAt : Option Obj → Nat → Array Value → Option Obj
  | some (.cells c te (0, 0)), o, cs => if o + cs.size ≤ c.size then some (.cells (c.toList.take o ++ cs.toList ++ c.toList.drop (o + cs.size)).toArray te (0, 0)) else none
  | _, _, _ => none
theorem putsAt_some (c : Array Value) (te : TypeId) (o : Nat) (cs : Array Value) : putsAt (some (.cells c te (0, 0))) o cs = if o + cs.size ≤ c.size then some (.cells (c.toList.take o ++ cs.toList ++ c.toList.drop (o + cs.size)).toArray te (0, 0)) else none := (rfl)
theorem putsAt_spec {x : Option Obj} {o : Nat} {cs : Array Value} {y : Obj} (h : putsAt x o cs = some y) : ∃ c te, x = some (.cells c te (0, 0)) ∧ o + cs.size ≤ c.size ∧ y = .cells (c.toList.take o ++ cs.toList ++ c.toList.drop (o + cs.size)).toArray te (0, 0) := by
  unfold putsAt at h
  split at h
  · split at h
    · rename_i hle; cases h; exact ⟨_, _, rfl, hle, rfl⟩
    · cases h
  · cases h
/-- a row's cells -/
def rowIn : Option Obj → Option (Array Value)
  | some (.cells c _ _) => some c
  | _ => none
theorem rowIn_some (c : Array Value) (te : TypeId) (f : Nat × Nat) : rowIn (some (.cells c te f)) = some c := (rfl)
section
variable {P : Program} {w : World} {c : Array Value} {te : TypeId}
theorem K_store_1 (t : TypeId) (b o : Nat) (v : Value) (k : World → Prop) {y : Obj} (hy : putAt (w.heap[b]?) o v = some y) (hs : (Go.sizeOf t).run P w = .ok 1 w) (h1 : v.oneCell' = true) :
    K_store P t (.pointer (some ⟨b, o, none⟩)) v w k = k (w.setB b y) := by
  obtain ⟨c, te, hb, hlt, rfl⟩ := putAt_spec hy
  refine K_store_ok t _ _ ?_
  have hc : v.cells = #[v] := by cases v <;> first | rfl | (simp [Value.oneCell'] at h1)
  simp only [Instr.storeAt, Instr.sureAddr, Sem.run_bind, Sem.run_pure, Result.andThen_ok, storeVar, hs, hc]
  have hn : ¬ ((#[v] : Array Value).size ≠ 1) := by simp
  simp only [hn, if_false, storeCells, Sem.run_bind]
  rw [run_store _ _ _ _ _ h1]
  have ha : ((⟨b, o, none⟩ : Addr).add 0) = ⟨b, o, none⟩ := by simp [Addr.add]
  rw [ha, cell?_at, hb, cellIn_some, Array.getElem?_eq_getElem hlt, frozen?_at, hb, frozenIn_00]
  simp [setCell_setB w b o v hb]
theorem K_store_agg (t : TypeId) (b o : Nat) (cs : Array Value) (k : World → Prop) {y : Obj} (hy : putsAt (w.heap[b]?) o cs = some y) (hs : (Go.sizeOf t).run P w = .ok cs.size w) (h1 : cs.toList.all (fun v => v.oneCell') = true) :
    K_store P t (.pointer (some ⟨b, o, none⟩)) (.agg cs) w k = k (w.setB b y) := by
  obtain ⟨c, te, hb, ho, rfl⟩ := putsAt_spec hy
  refine K_store_ok t _ _ ?_
  simp only [Instr.storeAt, Instr.sureAddr, Sem.run_bind, Sem.run_pure, Result.andThen_ok, storeVar, hs, Value.cells]
  have hn' : ¬ (cs.size ≠ cs.size) := by simp
  simp only [hn', if_false]
  have := run_storeCells_at P b o te cs.toList 0 c w hb (by simpa using ho) (fun v hv => List.all_eq_true.1 h1 v hv)
  rw [this, setRow_setB w b _ hb]
  simp
end
/-! ### nothing but some blocks has turned -/
structure Upd (S : Nat → Prop) (w w' : World) : Prop where
  os : w'.os = w.os
  tape : w'.tape = w.tape
  output : w'.output = w.output
  size : w.heap.size ≤ w'.heap.size
  block : ∀ b, b < w.heap.size → ¬ S b → w'.heap[b]? = w.heap[b]?
def noB : Nat → Prop := fun _ => False
section
variable {S T : Nat → Prop} {a b c w w' : World}
theorem Upd.refl (S : Nat → Prop) (w : World) : Upd S w w := ⟨rfl, rfl, rfl, Nat.le_refl _, fun _ _ _ => rfl⟩
theorem Upd.trans (h : Upd S a b) (k : Upd S b c) : Upd S a c :=
  ⟨k.os.trans h.os, k.tape.trans h.tape, k.output.trans h.output, Nat.le_trans h.size k.size, fun i hi hn => (k.block i (Nat.lt_of_lt_of_le hi h.size) hn).trans (h.block i hi hn)⟩
/-- the second step may turn what is new since the first -/
theorem Upd.trans' (h : Upd S a b) (k : Upd T b c) (hT : ∀ i, T i → i < a.heap.size → S i) : Upd S a c :=
  ⟨k.os.trans h.os, k.tape.trans h.tape, k.output.trans h.output, Nat.le_trans h.size k.size, fun i hi hn => (k.block i (Nat.lt_of_lt_of_le hi h.size) (fun ht => hn (hT i ht hi))).trans (h.block i hi hn)⟩
theorem Upd.mono (h : Upd S a b) (hT : ∀ i, i < a.heap.size → S i → T i) : Upd T a b :=
  ⟨h.os, h.tape, h.output, h.size, fun i hi hn => h.block i hi (fun hs => hn (hT i hi hs))⟩
theorem Upd.alloc (h : Upd S a w) (o : Obj) : Upd S a (w.alloc o) :=
  ⟨h.os, h.tape, h.output, by have := h.size; simp; omega, fun i hi hn => by rw [heap_alloc, if_neg (by have := h.size; omega)]; exact h.block i hi hn⟩
theorem Upd.drew (h : Upd S a w) : Upd S a w.drew := ⟨h.os, h.tape, h.output, h.size, h.block⟩
theorem Upd.drewN (h : Upd S a w) (n : Nat) : Upd S a (w.drewN n) := ⟨h.os, h.tape, h.output, h.size, h.block⟩
theorem Upd.setCell (h : Upd S a w) (p : Addr) (v : Value) (hp : p.block < a.heap.size → S p.block) : Upd S a (w.setCell p v) :=
  ⟨h.os, h.tape, h.output, by simpa using h.size, fun i hi hn => by
    rw [heap_setCell, if_neg (fun e => hn (by subst e; exact hp hi))]; exact h.block i hi hn⟩
theorem Upd.setB (h : Upd S a w) (p : Nat) (o : Obj) (hp : p < a.heap.size → S p) : Upd S a (w.setB p o) :=
  ⟨h.os, h.tape, h.output, by rw [size_setB]; exact h.size, fun i hi hn => by
    rw [heap_setB, if_neg (fun e => hn (by subst e; exact hp hi))]; exact h.block i hi hn⟩
theorem Upd.grown {row : Option Nat} (h : Upd S a w) (hg : w.grownBy w' row) (hp : ∀ k, row = some k → k < a.heap.size → S k) : Upd S a w' :=
  ⟨hg.os.trans h.os, hg.tape.trans h.tape, hg.output.trans h.output, Nat.le_trans h.size hg.size, fun i hi hn =>
    (hg.block i (Nat.lt_of_lt_of_le hi h.size) (fun e => hn (hp i e.symm hi))).trans (h.block i hi hn)⟩
theorem Upd.get {o : Obj} (h : Upd S w w') {i : Nat} (hi : w.heap[i]? = some o) (hn : ¬ S i) : w'.heap[i]? = some o :=
  (h.block i (Array.getElem?_eq_some_iff.1 hi).1 hn).trans hi
end

/-! ### maps whose keys are ints -/
/-- the entries read as these pairs -/
def entriesOf (es : Array MapEntry) : List (Value × Value) := es.toList.map fun e => (e.key, e.val)
def kv (l : List (Int × Value)) : List (Value × Value) := l.map fun x => (.int .i64 x.1, x.2)
/-- stamps: each entry's own, all below the clock -/
def Stamped (es : Array MapEntry) (clk : Nat) : Prop := (es.toList.map (·.born)).Nodup ∧ ∀ e ∈ es.toList, e.born < clk
/-- block m of w is a map that reads as l -/
def MapAt (w : World) (m : Nat) (l : List (Int × Value)) : Prop :=
  ∃ es clk, w.heap[m]? = some (.map es clk) ∧ entriesOf es = kv l ∧ Stamped es clk ∧ (l.map (·.1)).Nodup
theorem MapAt.lt {w : World} {m : Nat} {l : List (Int × Value)} (h : MapAt w m l) : m < w.heap.size := by
  obtain ⟨es, clk, hm, _⟩ := h
  exact (Array.getElem?_eq_some_iff.1 hm).1
theorem MapAt.same {w w' : World} {m : Nat} {l : List (Int × Value)} (h : MapAt w m l) (he : w'.heap[m]? = w.heap[m]?) : MapAt w' m l := by
  obtain ⟨es, clk, hm, r⟩ := h
  exact ⟨es, clk, he.trans hm, r⟩
theorem MapAt.keep {S : Nat → Prop} {w w' : World} {m : Nat} {l : List (Int × Value)} (h : MapAt w m l) (hu : Upd S w w') (hn : ¬ S m) : MapAt w' m l :=
  h.same (hu.block m h.lt hn)
section
variable {P : Program} {w : World} {m : Nat} {l : List (Int × Value)} {t kt e : TypeId}
/-! ### going through a map that stays as it is -/
def unseen (seen : Array Nat) (e : MapEntry) : Bool := !seen.contains e.born
/-- block 'it' goes through map m (which reads as 'all'); 'rem' is still to come; 'cur' came last -/
def IterAt (w : World) (it m : Nat) (all rem : List (Int × Value)) (cur : Option (Int × Value)) : Prop :=
  ∃ es clk seen, w.heap[m]? = some (.map es clk) ∧ w.heap[it]? = some (.mapIter (some m) clk seen clk) ∧ entriesOf es = kv all ∧ Stamped es clk ∧ (all.map (·.1)).Nodup ∧
    (es.toList.filter (unseen seen)).map (fun e => (e.key, e.val)) = kv rem ∧
    ∀ c, cur = some c → ∃ e, e ∈ es.toList ∧ seen.back? = some e.born ∧ e.key = .int .i64 c.1 ∧ e.val = c.2
theorem IterAt.keep {S : Nat → Prop} {w w' : World} {it m : Nat} {all rem : List (Int × Value)} {cur : Option (Int × Value)} (h : IterAt w it m all rem cur) (hu : Upd S w w') (hi : ¬ S it) (hm : ¬ S m) : IterAt w' it m all rem cur := by
  obtain ⟨es, clk, seen, h1, h2, r⟩ := h
  exact ⟨es, clk, seen, hu.get h1 hm, hu.get h2 hi, r⟩
theorem IterAt.map {w : World} {it m : Nat} {all rem : List (Int × Value)} {cur : Option (Int × Value)} (h : IterAt w it m all rem cur) : MapAt w m all := by
  obtain ⟨es, clk, seen, h1, h2, h3, h4, h5, _⟩ := h
  exact ⟨es, clk, h1, h3, h4, h5⟩
theorem IterAt.lt {w : World} {it m : Nat} {all rem : List (Int × Value)} {cur : Option (Int × Value)} (h : IterAt w it m all rem cur) : it < w.heap.size := by
  obtain ⟨es, clk, seen, h1, h2, _⟩ := h
  exact (Array.getElem?_eq_some_iff.1 h2).1
section
variable {P : Program} {w : World} {it m : Nat} {all rem l : List (Int × Value)} {t kt e : TypeId} {cur : Option (Int × Value)}
end
end
attribute [go_sem ↓] heap_alloc heap_setCell heap_setB heap_drew heap_drewN
attribute [go_sem] one_bool one_int one_string one_pointer one_slice one_map one_func one_nilFunc one_iface one_nilIface cutIn_some putAt_some putsAt_some rowIn_some K_store_1 K_store_agg cell?_at frozen?_at cellIn_some frozenIn_00 putIn_cells size_setB setB_eq
end Go.Eng
namespace Go.Eng
open Go Go.ChangeShapes Go.RowKit
section
variable {H : Type} {enc : TypeId × Value → H} {P : Program}
theorem Upd.frozen {W W' : World} (h : Upd noB W W') (a : Addr) (ha : a.block < W.heap.size) : W'.frozen? a = W.frozen? a := by
  unfold World.frozen?
  rw [h.block a.block ha (fun x => x)]
theorem Upd.keptBut {W W' : World} (h : Upd noB W W') (may : MemPlace → Prop) : W.keptBut W' may := by
  refine ⟨h.os, h.output, fun i hi => ?_⟩
  rw [h.block i hi (fun x => x)]
  cases W.heap[i]? with
  | none => trivial
  | some o => cases o <;> simp
/-- 'post_of_same', where only what was there keeps its mark -/
theorem post_of_upd {f : Func} {s : ChangeSpec} {apart fresh handsOn again : Bool} {W W' : World} {args : Array Value} {v : Value} {ds gs : List (DataW H)} {before pa pv : List MemPlace}
    (hW : DataW.Whole enc P f.params.toList s.vars apart W args.toList ds gs before)
    (hres : ∀ (b : Nat) (sp : Nat → Bool) (hd : Bool), DataW.TrodAll enc P W' b sp hd f.resultTypes.toList (v.resultList f.resultTypes.size) (s.fn H (ds ++ gs)).results [])
    (hargs : ∀ sp : Nat → Bool, (∀ p ∈ before, sp p.block = true) → DataW.TrodAll enc P W' 0 sp true f.params.toList args.toList (s.fn H (ds ++ gs)).args pa)
    (hvars : ∀ sp : Nat → Bool, (∀ p ∈ before, sp p.block = true) → DataW.TrodVars enc P W' sp s.vars (s.fn H (ds ++ gs)).vars pv)
    (hps : before = pa ++ pv) (hu : Upd noB W W')
    (hok : ∀ (j : Nat) (t : TypeId) (r : Value), f.resultTypes[j]? = some t → (v.resultList f.resultTypes.size)[j]? = some r → Value.okWide P W' .any 0 t r) :
    s.post enc P f apart fresh handsOn again W args v W' := by
  have hlt := hW.lt
  have hold : ∀ p ∈ before, (fun b => decide (b < W.heap.size)) p.block = true := fun p hp => by simpa using hlt p hp
  refine ⟨ds, gs, before, [], pa, pv, hW, hres _ _ _, hargs _ hold, hvars _ hold, World.keptBut_mono (fun p hp => ⟨hp, ?_⟩) (hu.keptBut (· ∈ before)), fun _ => ?_⟩
  · rw [hps, List.mem_append] at hp
    exact Or.inr hp
  · obtain ⟨_, _, _, _, _, hz, hn⟩ := hW
    refine ⟨hok, _, _, ([] ++ pa) ++ pv, ⟨[] ++ pa, pv, trodAll_append (hargs _ (fun _ _ => rfl)) (hres _ _ _), hvars _ (fun _ _ => rfl), rfl, ?_, ?_⟩, ?_⟩
    · intro b off hp
      have hb : MemPlace.cell b off ∈ before := by rw [hps]; simpa using hp
      rw [hu.frozen _ (hlt _ hb)]
      exact hz b off hb
    · intro ha
      have := hn ha
      rw [hps] at this
      simpa using this
    · intro p hp _
      rw [hps]
      simpa using hp
end
end Go.Eng
namespace Go.Eng
set_option linter.unusedSimpArgs false
open Go
theorem wrap64_id {n : Int} (h1 : -9223372036854775808 ≤ n) (h2 : n < 9223372036854775808) : IntKind.i64.wrap n = n := by
  simp only [IntKind.wrap, IntKind.bits, IntKind.signed]
  simp; omega
/-- slice type t, of elements of type e: so many cells, so many bytes each -/
structure SlT (P : Program) (t e : TypeId) (size bytes : Nat) : Prop where
  ht : P.underlying t = some (.slice e)
  info : ∃ i z, P.info? e = some i ∧ i.zero = some z ∧ i.size = size ∧ i.bytes = bytes ∧ z.cells.size = size
  pos : 0 < size
  z8 : e = 5 → ∀ i, P.info? e = some i → i.zero = some (.int .u8 0)
theorem SlT.mk' {P : Program} {t e : TypeId} {size bytes : Nat} {i : TypeInfo} {z : Value} (ht : P.underlying t = some (.slice e)) (hi' : P.info? e = some i) (hz : i.zero = some z) (hs : i.size = size) (hb : i.bytes = bytes) (hzs : z.cells.size = size) (h0 : 0 < size)
    (h8 : e = 5 → z = .int .u8 0 := by first | exact fun h => absurd h (by decide) | exact fun _ => rfl) : SlT P t e size bytes :=
  ⟨ht, ⟨i, z, hi', hz, hs, hb, hzs⟩, h0, fun h j hj => by rw [hi'] at hj; cases hj; rw [hz, h8 h]⟩
/-! ### rows of the call's own: where they are bytes, what lies behind the length is bytes, too -/
def IsU8 (v : Value) : Prop := ∃ b : UInt8, v = .int .u8 (b.toNat : Int)
def FullB (w : World) (e : TypeId) (v : Value) : Prop := e = 5 → ∀ g cur f, v.ownBlock = some g → w.heap[g]? = some (.cells cur e f) → ∀ u ∈ cur.toList, IsU8 u
structure _root_.Go.World.ownsX (w : World) (base : Nat) (e : TypeId) (size : Nat) (v : Value) (n : Nat) (xs : List Value) : Prop where
  row : w.ownsRow base e size v n xs
  full : FullB w e v
theorem _root_.Go.World.ownsX_nil (w : World) (base : Nat) (e : TypeId) (size : Nat) : w.ownsX base e size (.slice none 0 0) 0 [] := ⟨World.ownsRow_nil _ _ _ _, fun _ g _ _ h => by cases h⟩
theorem _root_.Go.World.ownsX.lt {w : World} {base : Nat} {e : TypeId} {size : Nat} {v : Value} {n : Nat} {xs : List Value} (h : w.ownsX base e size v n xs) : ∀ k, v.ownBlock = some k → base ≤ k ∧ k < w.heap.size := h.row.lt
theorem isU8_zero : IsU8 (.int .u8 0) := ⟨0, rfl⟩
section
variable {P : Program} {t e : TypeId} {size bytes : Nat} {w : World}
theorem cell?_add (w : World) (b o j : Nat) : w.cell? ((⟨b, o, none⟩ : Addr).add j) = cellIn (w.heap[b]?) (o + j) := by
  have : ((⟨b, o, none⟩ : Addr).add j) = ⟨b, o + j, none⟩ := by
    unfold Addr.add; split <;> simp_all
  rw [this, cell?_at]
theorem addr_add (b o j : Nat) : ((⟨b, o, none⟩ : Addr).add j) = ⟨b, o + j, none⟩ := by
  unfold Addr.add; split <;> simp_all
theorem full_cells {w : World} {g : Nat} {cur : Array Value} {e : TypeId} {f : Nat × Nat} {n c o : Nat} (hg : w.heap[g]? = some (.cells cur e f)) (h : e = 5 → ∀ u ∈ cur.toList, IsU8 u) : FullB w e (.slice (some ⟨g, o, none⟩) n c) := by
  intro h8 g' cur' f' hv hg'
  simp only [Value.ownBlock, Option.some.injEq] at hv
  subst hv
  rw [hg] at hg'
  cases hg'
  exact h h8
theorem zeros_u8 (k : Nat) : ∀ u ∈ (Builtin.zeroCells (Value.int .u8 0).cells k).toList, IsU8 u := by
  intro u hu
  have hs := size_zeroCells (Value.int .u8 0).cells k
  obtain ⟨j, hj, rfl⟩ := List.mem_iff_getElem.1 hu
  simp [Builtin.zeroCells, Value.cells, Nat.mod_one]
  exact isU8_zero
theorem SlT.zeros8 (T : SlT P t e size bytes) {i : TypeInfo} {z : Value} (hi : P.info? e = some i) (hz : i.zero = some z) (k : Nat) (h : e = 5) : ∀ u ∈ (Builtin.zeroCells z.cells k).toList, IsU8 u := by
  have hzz := T.z8 h i hi
  rw [hz] at hzz
  cases hzz
  exact zeros_u8 k
/-- what an append fills is bytes, if what is appended is -/
theorem SlT.fills (T : SlT P t e size bytes) {base : Nat} {v : Value} {n : Nat} {xs : List Value} (own : w.ownsX base e size v n xs) (ty : TypeId) (a : Addr) (m c : Nat) (news : List Value) (hl : news.length = m * size)
    (hnews : ∀ j u, news[j]? = some u → w.cell? (a.add j) = some u) (h1 : ∀ u ∈ news, u.oneCell' = true) (h8 : e = 5 → ∀ u ∈ news, IsU8 u) (hmax : n + m ≤ maxLen) (hroom : (n + m) * bytes ≤ 140737488355328)
    {v' : Value} {w' : World} (hr : (Builtin.append_ #[t, t] ty #[v, .slice (some a) m c]).run P w = .ok v' w') : FullB w' e v' := by
  obtain ⟨i, z, hi, hz, hs, hb, hzs⟩ := T.info
  subst hs
  subst hb
  have hsmall : n + m ≤ 9223372036854775807 := by simp only [maxLen] at hmax; omega
  have hzc := fun k => T.zeros8 hi hz k
  rcases own.row.2 with ⟨rfl, rfl⟩ | ⟨g, cap, cur, rfl, hbg, hg, hnc, hcm, hcs, htake⟩
  · by_cases hm : m = 0
    · subst hm
      have hn : news = [] := List.eq_nil_of_length_eq_zero (by simpa using hl)
      subst hn
      have h0 : (Builtin.append_ #[t, t] ty #[.slice none 0 0, .slice (some a) 0 c]).run P w = .ok (.slice none 0 0) w := by
        simp [Builtin.append_, run_underlying T.ht, sizeOf, typeInfo, hi, Builtin.lenOf, Builtin.firstCells, loadCells, loadCellsFrom]
      rw [h0] at hr
      cases hr
      exact own.full
    · have h0 := run_append_nil (P := P) w t ty e i z T.ht hi hz a m c news hl hnews (by omega) (by omega) (by have hb := hroom; simp only [Nat.zero_add] at hb; omega)
      rw [h0] at hr
      cases hr
      refine full_cells (heap_alloc_new w.drew _) ?_
      intro h u hu
      simp only [Array.toList_append, List.mem_append] at hu
      rcases hu with hu | hu
      · exact h8 h u (by simpa using hu)
      · exact hzc _ h u hu
  · have hcur : e = 5 → ∀ u ∈ cur.toList, IsU8 u := fun h => own.full h g cur _ rfl hg
    by_cases hfit : n + m ≤ cap
    · have hf : n * i.size + news.length ≤ cur.size := by rw [hl, hcs, ← Nat.add_mul]; exact Nat.mul_le_mul_right _ hfit
      have h0 := run_append_room (P := P) w t ty e i T.ht hi g n cap cur hg a m c news hl hnews h1 hfit hf
      rw [h0] at hr
      cases hr
      refine full_cells (setRow_heap w g cur _ e _ hg) ?_
      intro h u hu
      simp only [List.mem_append] at hu
      rcases hu with (hu | hu) | hu
      · exact hcur h u (List.mem_of_mem_take hu)
      · exact h8 h u hu
      · exact hcur h u (List.mem_of_mem_drop hu)
    · have holds : ∀ j u, xs[j]? = some u → w.cell? ((⟨g, 0, none⟩ : Addr).add j) = some u := own.row.cells (g := g) rfl
      have h0 := run_append_grow (P := P) w t ty e i z T.ht hi hz ⟨g, 0, none⟩ n cap xs own.row.1 holds a m c news hl hnews (by omega) (by omega) (growslice_fits (by omega) hroom)
      rw [h0] at hr
      cases hr
      refine full_cells (heap_alloc_new w.drew _) ?_
      intro h u hu
      simp only [Array.toList_append, List.mem_append] at hu
      rcases hu with (hu | hu) | hu
      · rw [← htake] at hu
        exact hcur h u (List.mem_of_mem_take (by simpa using hu))
      · exact h8 h u (by simpa using hu)
      · exact hzc _ h u hu
/-- append of cells that lie in a row -/
theorem SlT.append (T : SlT P t e size bytes) {base : Nat} {v : Value} {n : Nat} {xs : List Value} (own : w.ownsX base e size v n xs) (ty : TypeId)
    {b o m c : Nat} {cs : Array Value} {te : TypeId} {f : Nat × Nat} (hsrc : w.heap[b]? = some (.cells cs te f)) (news : List Value) (hnews : news = (cs.toList.drop o).take (m * size)) (hm : o + m * size ≤ cs.size) (h1 : ∀ u ∈ news, u.oneCell' = true)
    (hroom : (n + m) * bytes ≤ 140737488355328) (hmax : n + m ≤ maxLen) (hbase : base ≤ w.heap.size) (h8 : e = 5 → ∀ u ∈ news, IsU8 u := by first | exact fun h => absurd h (by decide) | exact fun _ => u8_is _) :
    ∃ v' w', (Builtin.append_ #[t, t] ty #[v, .slice (some ⟨b, o, none⟩) m c]).run P w = .ok v' w' ∧ w'.ownsX base e size v' (n + m) (xs ++ news) ∧ w.grownBy w' v.ownBlock ∧
      (v' = .slice none 0 0 ↔ v = .slice none 0 0 ∧ m = 0) := by
  obtain ⟨i, z, hi, hz, hs, hb, hzs⟩ := T.info
  have k1 : news.length = m * size := by subst hnews; simp; omega
  have k2 : ∀ j u, news[j]? = some u → w.cell? ((⟨b, o, none⟩ : Addr).add j) = some u := ?_
  · obtain ⟨v', w', g1, g2, g3⟩ := run_append_own w base t ty e i z size bytes T.ht hi hz hs hb hzs T.pos v n xs own.row ⟨b, o, none⟩ m c news k1 k2 h1 hmax hroom hbase
    exact ⟨v', w', g1, ⟨g2, T.fills own ty _ m c news k1 k2 h1 h8 hmax hroom g1⟩, g3⟩
  · intro j u hu
    rw [cell?_add, hsrc, cellIn_some]
    subst hnews
    rw [List.getElem?_take] at hu
    split at hu
    · rw [List.getElem?_drop] at hu
      simpa using hu
    · cases hu
theorem fold_get : ∀ (l : List Value) (k : Nat) (a : Array Value) (j : Nat), k + l.length ≤ a.size →
    ((l.zipIdx k).foldl (fun cs (x : Value × Nat) => cs.setIfInBounds (0 + x.2) x.1) a)[j]? = if k ≤ j ∧ j < k + l.length then l[j - k]? else a[j]? := by
  intro l
  induction l with
  | nil => intro k a j _; rw [if_neg (by simp)]; rfl
  | cons x r ih =>
    intro k a j hk
    simp only [List.length_cons] at hk
    simp only [List.zipIdx_cons, List.foldl_cons]
    rw [ih (k + 1) _ j (by simp; omega)]
    by_cases hj : k = j
    · subst hj
      rw [if_neg (by omega), if_pos (by simp)]
      have : k < a.size := by omega
      simp [this]
    · by_cases hj2 : k + 1 ≤ j ∧ j < k + 1 + r.length
      · rw [if_pos hj2, if_pos (by simp; omega)]
        have : j - k = (j - (k + 1)) + 1 := by omega
        rw [this, List.getElem?_cons_succ]
      · rw [if_neg hj2, if_neg (by simp; omega)]
        rw [Array.getElem?_setIfInBounds, if_neg (by omega)]
theorem fold_set (xs a : Array Value) (o : Nat) (ho : o = 0) (h : xs.size = a.size) : (xs.zipIdx.foldl (fun cs (x : Value × Nat) => cs.setIfInBounds (o + x.2) x.1) a) = xs := by
  subst ho
  rw [← Array.foldl_toList, Array.toList_zipIdx]
  apply Array.ext_getElem?
  intro j
  rw [fold_get xs.toList 0 a j (by simp [h])]
  by_cases hj : j < xs.size
  · rw [if_pos (by simp [hj])]; simp
  · rw [if_neg (by simp; omega)]
    rw [Array.getElem?_eq_none (by omega), Array.getElem?_eq_none (by omega)]
/-- a slice of one element, written out -/
theorem SlT.build1 (T : SlT P t e size bytes) (v : Value) (hv : v.cells.size = size) (hsz : size ≤ 16777216) :
    (Instr.buildSlice t 1 #[(0, v)]).run P w = .ok (.slice (some ⟨w.heap.size, 0, none⟩) 1 1) (w.alloc (.cells v.cells e)) := by
  obtain ⟨i, z, hi, hz, hs, hb, hzs⟩ := T.info
  have hpos := T.pos
  have hp : ¬ size = 0 := by omega
  have h24 : ¬ (16777216 < size) := by omega
  have hfill : Instr.fill (fun i => some (i * size, size)) ((Array.range size).map (z.cells[· % z.cells.size]!)) [(0, v)] = some v.cells := by
    have h1 : (v.cells.size ≠ size || decide (0 * size + v.cells.size > ((Array.range size).map (z.cells[· % z.cells.size]!)).size)) = false := by simp [hv]
    simp only [Instr.fill, h1, Bool.false_eq_true, if_false]
    rw [fold_set v.cells _ (0 * size) (by omega) (by simp [hv])]
  have hinfo : ∀ w, (typeInfo e).run P w = .ok i w := fun w => by simp [typeInfo, hi]
  have hzero : ∀ w, (zeroValue e).run P w = .ok z w := fun w => by simp [zeroValue, hinfo, hz]
  have hsize : ∀ w, (Go.sizeOf e).run P w = .ok size w := fun w => by simp [Go.sizeOf, hinfo, hs]
  simp [Instr.buildSlice, run_underlying T.ht, hsize, hp, h24, hzero, hfill, newRow]
theorem SlT.build1K (T : SlT P t e size bytes) (v : Value) (hv : v.cells.size = size) (hsz : size ≤ 16777216) (k : Value → World → Prop) :
    K_buildSlice P t 1 #[(0, v)] w k = k (.slice (some ⟨w.heap.size, 0, none⟩) 1 1) (w.alloc (.cells v.cells e)) := K_buildSlice_ok _ _ _ _ (T.build1 v hv hsz)
theorem own_base {base base' : Nat} {v : Value} {n : Nat} {xs : List Value} (h : w.ownsX base e size v n xs) (hb : base' ≤ base) : w.ownsX base' e size v n xs := by
  refine ⟨⟨h.row.1, ?_⟩, h.full⟩
  rcases h.row.2 with h | ⟨g, cap, cur, hv, hg, r⟩
  · exact Or.inl h
  · exact Or.inr ⟨g, cap, cur, hv, Nat.le_trans hb hg, r⟩
theorem own_keep {base : Nat} {v : Value} {n : Nat} {xs : List Value} {S : Nat → Prop} {w' : World} (h : w.ownsX base e size v n xs) (hu : Upd S w w') (hn : ∀ b, v.ownBlock = some b → ¬ S b) : w'.ownsX base e size v n xs := by
  rcases h.row.2 with h2 | ⟨g, cap, cur, rfl, hg, hb, r⟩
  · exact ⟨⟨h.row.1, Or.inl h2⟩, by obtain ⟨rfl, _⟩ := h2; exact fun _ g _ _ h => by cases h⟩
  · exact ⟨⟨h.row.1, Or.inr ⟨g, cap, cur, rfl, hg, hu.get hb (hn g rfl), r⟩⟩, full_cells (hu.get hb (hn g rfl)) (fun h8 => h.full h8 g cur _ rfl hb)⟩
theorem own_keep0 {base : Nat} {v : Value} {n : Nat} {xs : List Value} {w' : World} (h : w.ownsX base e size v n xs) (hu : Upd noB w w') : w'.ownsX base e size v n xs := own_keep h hu (fun _ _ h => h)
/-- append to a slice that is the call's own since base: nothing older has turned -/
theorem upd_append {base : Nat} {v : Value} {n : Nat} {xs : List Value} {w0 w1 w' : World} {S : Nat → Prop} (h : w.ownsX base e size v n xs) (hu : Upd S w0 w1) (hb : w0.heap.size ≤ base) (hg : w1.grownBy w' v.ownBlock) : Upd S w0 w' :=
  hu.grown hg (fun b hb' hlt => by have := (h.lt b hb').1; omega)
/-! ### a slice that is read -/
/-- v is a slice of n elements, of 'size' cells each, whose cells read as xs -/
def RowAt (w : World) (size : Nat) (v : Value) (n : Nat) (xs : List Value) : Prop :=
  xs.length = n * size ∧ ((∃ p cap, v = .slice p 0 cap ∧ n = 0) ∨
    ∃ b off cap c e f, v = .slice (some ⟨b, off, none⟩) n cap ∧ w.heap[b]? = some (.cells c e f) ∧ off + n * size ≤ c.size ∧ (c.toList.drop off).take (n * size) = xs)
theorem RowAt.of_own {base : Nat} {v : Value} {n : Nat} {xs : List Value} (own : w.ownsX base e size v n xs) : RowAt w size v n xs := by
  refine ⟨own.row.1, ?_⟩
  rcases own.row.2 with ⟨hv, hn⟩ | ⟨b, cap, cur, hv, hbase, hb, hnc, hcap, hcs, htake⟩
  · exact Or.inl ⟨none, 0, by rw [hv], hn⟩
  · have : n * size ≤ cap * size := Nat.mul_le_mul_right _ hnc
    exact Or.inr ⟨b, 0, cap, cur, e, (0, 0), hv, hb, by omega, by simpa using htake⟩
theorem RowAt.keep {S : Nat → Prop} {w' : World} {v : Value} {n : Nat} {xs : List Value} (h : RowAt w size v n xs) (hu : Upd S w w') (hn : ∀ b, v.ownBlock = some b → ¬ S b) : RowAt w' size v n xs := by
  refine ⟨h.1, ?_⟩
  rcases h.2 with hv | ⟨b, off, cap, c, e, f, rfl, hb, r⟩
  · exact Or.inl hv
  · exact Or.inr ⟨b, off, cap, c, e, f, rfl, hu.get hb (hn b rfl), r⟩
theorem RowAt.len {v : Value} {n : Nat} {xs : List Value} (h : RowAt w size v n xs) : ∃ p cap, v = .slice p n cap := by
  rcases h.2 with ⟨p, cap, rfl, rfl⟩ | ⟨b, off, cap, c, e, f, rfl, r⟩
  · exact ⟨_, _, rfl⟩
  · exact ⟨_, _, rfl⟩
/-- element k: its place, and its cells -/
theorem RowAt.index {v : Value} {n : Nat} {xs : List Value} (h : RowAt w size v n xs) (ht : P.underlying t = some (.slice e)) (hs : ∀ w, (Go.sizeOf e).run P w = .ok size w) (k : Nat) (hk : k < n) :
    ∃ b off c te f, v.ownBlock = some b ∧ (∀ kk, (Instr.indexAt t v (.int kk k)).run P w = .ok (.pointer (some ⟨b, off + k * size, none⟩)) w) ∧ w.heap[b]? = some (.cells c te f) ∧ off + n * size ≤ c.size ∧
      ∀ j, j < size → c[off + k * size + j]? = xs[k * size + j]? := by
  rcases h.2 with ⟨p, cap, rfl, rfl⟩ | ⟨b, off, cap, c, te, f, rfl, hb, hle, htake⟩
  · omega
  · refine ⟨b, off, c, te, f, rfl, ?_, hb, hle, ?_⟩
    · intro kk
      simp [Instr.indexAt, asIntOf, run_underlying ht, hs, hk, addr_add]
    · intro j hj
      have hlt : k * size + j < n * size := by
        have : (k + 1) * size ≤ n * size := Nat.mul_le_mul_right _ hk
        rw [Nat.add_mul] at this; omega
      rw [← htake, List.getElem?_take, if_pos hlt, List.getElem?_drop, Array.getElem?_toList]
      congr 1; omega
/-- element k of one cell -/
theorem RowAt.at1 {v : Value} {n : Nat} {xs : List Value} (h : RowAt w 1 v n xs) (ht : P.underlying t = some (.slice e)) (hs : ∀ w, (Go.sizeOf e).run P w = .ok 1 w) (ha : ∀ w, (isAgg e).run P w = .ok false w) (k : Nat) (hk : k < n) (x : Value) (hx : xs[k]? = some x) :
    ∃ q, (∀ kk, (Instr.indexAt t v (.int kk k)).run P w = .ok (.pointer (some q)) w) ∧ (Instr.loadAt e (.pointer (some q))).run P w = .ok x w ∧ ∀ K, K_load P e (.pointer (some q)) w K = K x w := by
  obtain ⟨b, off, c, te, f, _, hi, hb, hle, hc⟩ := h.index ht hs k hk
  have key : (Instr.loadAt e (.pointer (some ⟨b, off + k * 1, none⟩))).run P w = .ok x w := ?_
  · exact ⟨_, hi, key, fun K => K_load_ok K _ _ key⟩
  have h0 := hc 0 (by omega)
  simp only [Nat.mul_one, Nat.add_zero] at h0
  rw [hx] at h0
  simp only [Instr.loadAt, Instr.sureAddr, Sem.run_bind, Sem.run_pure, Result.andThen_ok, loadVar, ha, Bool.false_eq_true, if_false, run_load, cell?_at, hb, cellIn_some, Nat.mul_one, h0]
theorem run_loadCells (b o : Nat) {c : Array Value} {te : TypeId} {f : Nat × Nat} (hb : w.heap[b]? = some (.cells c te f)) :
    ∀ (n i : Nat) (acc : Array Value), o + i + n ≤ c.size → (loadCellsFrom ⟨b, o, none⟩ i n acc).run P w = .ok (acc ++ ((c.toList.drop (o + i)).take n).toArray) w := by
  intro n
  induction n with
  | zero => intro i acc _; simp [loadCellsFrom]
  | succ n ih =>
    intro i acc h
    have hlt : o + i < c.size := by omega
    simp only [loadCellsFrom, Sem.run_bind, run_load, cell?_add, hb, cellIn_some, Array.getElem?_eq_getElem hlt, Result.andThen_ok]
    rw [ih (i + 1) _ (by omega)]
    congr 1
    have : c.toList.drop (o + i) = c[o + i] :: c.toList.drop (o + (i + 1)) := by
      rw [List.drop_eq_getElem_cons (by simpa using hlt)]; simp [Nat.add_assoc]
    rw [this]
    simp
/-- a struct (or an array) that lies in a row -/
theorem run_loadAgg {t : TypeId} {n : Nat} (ha : (isAgg t).run P w = .ok true w) (hs : (Go.sizeOf t).run P w = .ok n w) (b o : Nat) {c : Array Value} {te : TypeId} {f : Nat × Nat} (hb : w.heap[b]? = some (.cells c te f)) (h : o + n ≤ c.size) :
    (Instr.loadAt t (.pointer (some ⟨b, o, none⟩))).run P w = .ok (.agg ((c.toList.drop o).take n).toArray) w := by
  simp only [Instr.loadAt, Instr.sureAddr, Sem.run_bind, Sem.run_pure, Result.andThen_ok, loadVar, ha, if_true, hs, loadCells]
  rw [run_loadCells b o hb n 0 #[] (by omega)]
  simp
theorem K_load_agg {t : TypeId} {n : Nat} (b o : Nat) {cs : List Value} (K : Value → World → Prop) (ha : (isAgg t).run P w = .ok true w) (hs : (Go.sizeOf t).run P w = .ok n w) (hb : cutIn (w.heap[b]?) o n = some cs) :
    K_load P t (.pointer (some ⟨b, o, none⟩)) w K = K (.agg cs.toArray) w := by
  obtain ⟨c, te, f, hb2, hle, rfl⟩ := cutIn_spec hb
  exact K_load_ok K _ _ (run_loadAgg ha hs b o hb2 hle)
theorem RowAt.atN {v : Value} {n : Nat} {xs : List Value} (h : RowAt w size v n xs) (ht : P.underlying t = some (.slice e)) (hs : ∀ w, (Go.sizeOf e).run P w = .ok size w) (ha : ∀ w, (isAgg e).run P w = .ok true w) (k : Nat) (hk : k < n) :
    ∃ q, (∀ kk, (Instr.indexAt t v (.int kk k)).run P w = .ok (.pointer (some q)) w) ∧ (Instr.loadAt e (.pointer (some q))).run P w = .ok (.agg ((xs.drop (k * size)).take size).toArray) w ∧ ∀ K, K_load P e (.pointer (some q)) w K = K (.agg ((xs.drop (k * size)).take size).toArray) w := by
  obtain ⟨b, off, c, te, f, _, hi, hb, hle, hc⟩ := h.index ht hs k hk
  have hlt : k * size + size ≤ n * size := by
    have : (k + 1) * size ≤ n * size := Nat.mul_le_mul_right _ hk
    rw [Nat.add_mul] at this; omega
  have key : (Instr.loadAt e (.pointer (some ⟨b, off + k * size, none⟩))).run P w = .ok (.agg ((xs.drop (k * size)).take size).toArray) w := ?_
  · exact ⟨_, hi, key, fun K => K_load_ok K _ _ key⟩
  rw [run_loadAgg (ha w) (hs w) b _ hb (by omega)]
  congr 3
  apply List.ext_getElem?
  intro j
  rw [List.getElem?_take, List.getElem?_take]
  by_cases hj : j < size
  · rw [if_pos hj, if_pos hj, List.getElem?_drop, List.getElem?_drop, Array.getElem?_toList]
    exact hc j hj
  · rw [if_neg hj, if_neg hj]
/-! ### slicing -/
/-- element k of a list of rows of one length -/
theorem flat_at {α : Type} (f : α → List Value) (size : Nat) (hf : ∀ x, (f x).length = size) : ∀ (l : List α) (k : Nat) (hk : k < l.length), ((l.flatMap f).drop (k * size)).take size = f l[k] := by
  intro l
  induction l with
  | nil => intro k hk; simp at hk
  | cons x r ih =>
    intro k hk
    cases k with
    | zero => simp [List.flatMap_cons, List.take_append_of_le_length, hf, List.take_of_length_le]
    | succ k =>
      simp only [List.flatMap_cons, List.getElem_cons_succ]
      have : (k + 1) * size = (f x).length + k * size := by rw [hf, Nat.add_mul]; omega
      rw [this, List.drop_append]
      simp only [List.length_cons, Nat.add_lt_add_iff_right] at hk
      rw [List.drop_eq_nil_of_le (by omega), List.nil_append]
      have : (f x).length + k * size - (f x).length = k * size := by omega
      rw [this]
      exact ih k hk
theorem flat_len {α : Type} (f : α → List Value) (size : Nat) (hf : ∀ x, (f x).length = size) (l : List α) : (l.flatMap f).length = l.length * size := by
  induction l with
  | nil => simp
  | cons x r ih => simp only [List.flatMap_cons, List.length_append, hf, ih, List.length_cons, Nat.add_mul]; omega
end
attribute [go_sem] K_load_agg
end Go.Eng
namespace Go.Eng
open Go Go.ChangeShapes Go.WideShapes Go.RowKit
section
variable {H : Type} {enc : TypeId × Value → H} {P : Program} {w : World} {held : Bool}
theorem Upd.below {W W' : World} (h : Upd noB W W') : Below W.heap.size W W' := ⟨h.os, h.tape, h.output, h.size, fun k hk => h.block k hk (fun x => x)⟩
theorem range_rows (rows : Nat → List Value) (size n : Nat) (hr : ∀ i, i < n → (rows i).length = size) (i j : Nat) (hi : i < n) (hj : j < size) : ((List.range n).flatMap rows)[i * size + j]? = (rows i)[j]? := by
  have h1 : (List.range n).flatMap rows = (List.range n).flatMap (fun i => if i < n then rows i else List.replicate size undef) := Deep.flatMap_congr_range fun i hi => by rw [if_pos hi]
  have h2 := flat_at (fun i => if i < n then rows i else List.replicate size undef) size (fun i => by split; exact hr i ‹_›; simp) (List.range n) i (by simpa using hi)
  rw [h1]
  have h3 := congrArg (fun l => l[j]?) h2
  simp only [List.getElem?_take, if_pos hj, List.getElem?_drop, List.getElem_range, if_pos hi] at h3
  exact h3
theorem range_rows_len (rows : Nat → List Value) (size : Nat) : ∀ n, (∀ i, i < n → (rows i).length = size) → ((List.range n).flatMap rows).length = n * size := by
  intro n
  induction n with
  | zero => intro _; simp
  | succ n ih =>
    intro hr
    rw [List.range_succ, List.flatMap_append, List.length_append, ih (fun i hi => hr i (by omega))]
    simp [hr n (by omega), Nat.add_mul]
theorem open_rows {t e : TypeId} {size fuel : Nat} {cs : List Value} {x : DataW H × List MemPlace} (ht : P.underlying t = some (.slice e)) (hc : P.cellsOf e = size) (hpos : 0 < size)
    (h : DataW.trod enc P w 0 (fun _ => true) held fuel t cs = some x) :
    ∃ (v : Value) (n : Nat) (rows : Nat → List Value), cs = [v] ∧ RowAt w size v n ((List.range n).flatMap rows) ∧ n ≤ 9223372036854775807 ∧
      ∀ i, i < n → (rows i).length = size ∧ ∃ m y, DataW.trod enc P w 0 (fun _ => true) held m e (rows i) = some y := by
  rcases Deep.open_slice ht h with ⟨rfl, _⟩ | ⟨a, len, cap, m, n, D, Pl, rfl, _, hl, hm, hmm, _, hx⟩
  · exact ⟨_, 0, fun _ => [], rfl, ⟨by simp, Or.inl ⟨none, 0, rfl, rfl⟩⟩, by omega, fun i hi => absurd hi (by omega)⟩
  · simp only [if_true] at hmm
    subst hmm
    rw [hc] at hx
    obtain ⟨rows, hrows⟩ := Deep.choose_lt (α := List Value) (p := fun i cs' => w.cells? 0 (a.add (i * size)) size = some cs' ∧ DataW.trod enc P w 0 (fun _ => true) held n e cs' = some (D i, Pl i)) (fun i hi => hx i hi)
    refine ⟨_, len, rows, rfl, ?_, by have h2 : maxLen = 9223372036854775807 := rfl; omega, fun i hi => ⟨(World.cells?_some (hrows i (by omega)).1).2.1, n, _, (hrows i (by omega)).2⟩⟩
    have hlen : ∀ i, i < len → (rows i).length = size := fun i hi => (World.cells?_some (hrows i (by omega)).1).2.1
    refine ⟨range_rows_len rows size len hlen, ?_⟩
    by_cases h0 : len = 0
    · subst h0; exact Or.inl ⟨_, m, rfl, rfl⟩
    · obtain ⟨b, off, spot⟩ := a
      have hcell := fun i (hi : i < len) j (hj : j < size) => (World.cells?_some (hrows i (by omega)).1).2.2 j hj
      have h00 := hcell 0 (by omega) 0 hpos
      have hne : (rows 0)[0]? ≠ none := by
        have := hlen 0 (by omega)
        rw [List.getElem?_eq_getElem (by omega)]; simp
      rw [← h00] at hne
      simp only [Nat.zero_mul, Addr.add, if_true, World.cell?] at hne
      split at hne
      · rename_i c te f hb
        cases spot with
        | some s => simp at hne
        | none =>
          have hall : ∀ i, i < len → ∀ j, j < size → c[off + i * size + j]? = (rows i)[j]? := by
            intro i hi j hj
            have := hcell i hi j hj
            rw [addr_add, addr_add, cell?_at, hb, cellIn_some] at this
            exact this
          have hsz : off + len * size ≤ c.size := by
            have h1 := hall (len - 1) (by omega) (size - 1) (by omega)
            rw [List.getElem?_eq_getElem (by rw [hlen _ (by omega)]; omega)] at h1
            have h2 := (Array.getElem?_eq_some_iff.1 h1).1
            have h3 : (len - 1) * size + size = len * size := by
              have : len = (len - 1) + 1 := by omega
              conv => rhs; rw [this, Nat.add_mul, Nat.one_mul]
            omega
          refine Or.inr ⟨b, off, m, c, te, f, rfl, hb, hsz, ?_⟩
          apply List.ext_getElem?
          intro k
          rw [List.getElem?_take]
          by_cases hk : k < len * size
          · rw [if_pos hk, List.getElem?_drop, Array.getElem?_toList]
            have hkk : k = k / size * size + k % size := by rw [Nat.mul_comm]; exact (Nat.div_add_mod k size).symm
            have hi : k / size < len := Nat.div_lt_of_lt_mul (by rw [Nat.mul_comm]; exact hk)
            have hj : k % size < size := Nat.mod_lt _ hpos
            rw [hkk, range_rows rows size len hlen _ _ hi hj, ← hall _ hi _ hj, Nat.add_assoc]
          · rw [if_neg hk, List.getElem?_eq_none]
            rw [range_rows_len rows size len hlen]; omega
      · exact absurd rfl hne
/-- a struct's field of one cell -/
theorem field_int {t : TypeId} {fs : Array Field} {fuel : Nat} {cs : List Value} {x : DataW H × List MemPlace} {base : Nat} {spare : Nat → Bool} (ht : P.underlying t = some (.struct fs)) (h : DataW.trod enc P w base spare held fuel t cs = some x) (i : Nat) {f : Field} (hf : fs[i]? = some f) {k : IntKind}
    (hk : P.underlying f.type = some (.int k)) (hc : P.cellsOf f.type = 1) : ∃ n, cs[f.offset]? = some (.int k n) ∧ (Lit.int k n).wf = true := by
  obtain ⟨xs, n, _, _, _, hlen, hx⟩ := DataW.trod_struct ht h
  have h1 := hx i f hf
  have hi := (Array.getElem?_eq_some_iff.1 hf).1
  rw [List.getElem?_eq_getElem (by omega), hc] at h1
  obtain ⟨z, h2, _, h3⟩ := DataW.trod_int hk h1
  refine ⟨z, ?_, h3⟩
  have := congrArg (fun l => l[0]?) h2
  simpa [List.getElem?_take, List.getElem?_drop] using this
theorem field_bool {t : TypeId} {fs : Array Field} {fuel : Nat} {cs : List Value} {x : DataW H × List MemPlace} {base : Nat} {spare : Nat → Bool} (ht : P.underlying t = some (.struct fs)) (h : DataW.trod enc P w base spare held fuel t cs = some x) (i : Nat) {f : Field} (hf : fs[i]? = some f)
    (hk : P.underlying f.type = some .bool) (hc : P.cellsOf f.type = 1) : ∃ b, cs[f.offset]? = some (.bool b) := by
  obtain ⟨xs, n, _, _, _, hlen, hx⟩ := DataW.trod_struct ht h
  have h1 := hx i f hf
  have hi := (Array.getElem?_eq_some_iff.1 hf).1
  rw [List.getElem?_eq_getElem (by omega), hc] at h1
  obtain ⟨z, h2, _⟩ := DataW.trod_bool hk h1
  refine ⟨z, ?_⟩
  have := congrArg (fun l => l[0]?) h2
  simpa [List.getElem?_take, List.getElem?_drop] using this
/-- what came in reads as it did, where nothing old has turned -/
theorem read_again (hlaid : laidOutB P = true) {W W' : World} {sp : Nat → Bool} (hu : Upd noB W W') : ∀ {ts : List TypeId} {vs : List Value} {ds : List (DataW H)} {ps : List MemPlace}, (∀ t ∈ ts, P.readableRec t = true ∧ t < P.types.size) →
    DataW.TrodAll enc P W 0 (fun _ => true) true ts vs ds ps → (∀ x ∈ ps, x.block < W.heap.size) → (∀ x ∈ ps, sp x.block = true) → DataW.TrodAll enc P W' 0 sp true ts vs ds ps
  | [], vs, ds, ps, _, h, _, _ => by
    obtain ⟨rfl, rfl, rfl⟩ := trodAll_nil h
    exact trodAll_mk0
  | t :: ts, vs, ds, ps, ht, h, hlt, hsp => by
    obtain ⟨v, vs', d, ds', a, b, rfl, rfl, rfl, h1, h2⟩ := trodAll_cons h
    refine trodAll_cons_mk ?_ (read_again hlaid hu (fun t' ht' => ht t' (by simp [ht'])) h2 (fun x hx => hlt x (by simp [hx])) (fun x hx => hsp x (by simp [hx])))
    exact WideElems.Trod_stays hlaid (ht t (by simp)).1 (ht t (by simp)).2 h1 (fun x hx => hu.below.same (hlt x (by simp [hx]))) (fun x hx => hsp x (by simp [hx]))
/-- a law's end: it returned true, and nothing old has turned -/
theorem post_law {f : Func} {s : ChangeSpec} {apart fresh handsOn again : Bool} {W W' : World} {args : Array Value} {ds gs : List (DataW H)} {before : List MemPlace} {tb : TypeId} (hlaid : laidOutB P = true)
    (hts : (f.params.toList.all fun t => P.readableRec t && decide (t < P.types.size)) = true) (hr : f.resultTypes = #[tb]) (hb : P.underlying tb = some .bool) (hv : s.vars = [])
    (hW : DataW.Whole enc P f.params.toList s.vars apart W args.toList ds gs before) (hu : Upd noB W W')
    (h1 : (s.fn H (ds ++ gs)).results = [.lit (.bool true)]) (h2 : (s.fn H (ds ++ gs)).args = ds) (h3 : (s.fn H (ds ++ gs)).vars = []) : s.post enc P f apart fresh handsOn again W args (.bool true) W' := by
  have hlt := hW.lt
  have hW' := hW
  obtain ⟨p, q, hA, hV, hpq, _⟩ := hW
  rw [hv] at hV
  obtain ⟨rfl, rfl⟩ := trodVars_none hV
  refine post_of_upd (pa := p) (pv := []) hW' ?_ ?_ ?_ (by simpa using hpq) hu (ok_one hr rfl (okWide_bool_mk hb _))
  · intro b sp hd
    rw [h1, hr]
    exact trodAll_cons_mk (shut_bool hb _) trodAll_mk0
  · intro sp hsp
    rw [h2]
    have hpb : ∀ x ∈ p, x ∈ before := fun x hx => by rw [hpq]; simp [hx]
    exact read_again hlaid hu (fun t ht => by have := List.all_eq_true.1 hts t ht; simpa using this) hA (fun x hx => hlt x (hpb x hx)) (fun x hx => hsp x (hpb x hx))
  · intro sp hsp
    rw [hv, h3]
    rfl
end
end Go.Eng
namespace Go.Eng
set_option linter.unusedSimpArgs false
open Go
section
variable {ι : Type} {P : Program} {W : ι → World}
/-- operation 'op' yields v in world W i, and leaves a world of the family -/
def RunQ (P : Program) (W : ι → World) (op : Op) (t : TypeId) (e : Operand → Value) (i : ι) (v : Value) : Prop :=
  Oper.quietUpon P (fun w => ∃ j, w = W j) (W i) v ((execOp e ⟨none, op, t, "", #[], none⟩).run P (W i))
def QuietO (P : Program) (W : ι → World) (op : Op) (t : TypeId) (e : Operand → Value) (k : Value → Prop) : Prop :=
  ∃ v, (∀ i, RunQ P W op t e i v) ∧ k v
def opsQ (P : Program) (W : ι → World) (Q : Env → Prop) : List SOp → Env → Prop
  | [], ρ => Q ρ
  | ⟨d, op, t, none⟩ :: r, ρ => QuietO P W op t (evE ρ) (fun v => opsQ P W Q r (putE ρ d v))
  | ⟨d, op, t, some (g, want)⟩ :: r, ρ => GuardO g ρ want (QuietO P W op t (evE ρ) (fun v => opsQ P W Q r (putE ρ d v))) (opsQ P W Q r (putE ρ d undef))
def contQ (P : Program) (W : ι → World) (Q : Env → Prop) (r : List SOp) (ρ : Env) (d : Option Tmp) : Value → Prop := fun v => opsQ P W Q r (putE ρ d v)
variable {Q : Env → Prop} {ρ : Env}
theorem contQ_app (r : List SOp) (d : Option Tmp) (v : Value) : contQ P W Q r ρ d v = opsQ P W Q r (putE ρ d v) := (rfl)
theorem opsQ_nil : opsQ P W Q [] ρ = Q ρ := (rfl)
theorem opsQ_plain (d : Option Tmp) (op : Op) (t : TypeId) (r : List SOp) : opsQ P W Q (⟨d, op, t, none⟩ :: r) ρ = QuietO P W op t (evE ρ) (contQ P W Q r ρ d) := (rfl)
theorem guardQ_t (d : Option Tmp) (op : Op) (t : TypeId) (r : List SOp) (g : Tmp) (want : Bool) (h : ρ g = .bool want) :
    opsQ P W Q (⟨d, op, t, some (some g, want)⟩ :: r) ρ = QuietO P W op t (evE ρ) (contQ P W Q r ρ d) := by
  simp only [opsQ, GuardO, GuardE, h]; simp; rfl
theorem guardQ_f (d : Option Tmp) (op : Op) (t : TypeId) (r : List SOp) (g : Tmp) (want : Bool) (h : ρ g = .bool !want) :
    opsQ P W Q (⟨d, op, t, some (some g, want)⟩ :: r) ρ = opsQ P W Q r (putE ρ d undef) := by
  simp only [opsQ, GuardO, GuardE, h]; cases want <;> simp
theorem guardQ_u (d : Option Tmp) (op : Op) (t : TypeId) (r : List SOp) (g : Tmp) (want : Bool) (h : ρ g = undef) :
    opsQ P W Q (⟨d, op, t, some (some g, want)⟩ :: r) ρ = opsQ P W Q r (putE ρ d undef) := by
  simp only [opsQ, GuardO, GuardE, h, undef]
section
variable [Nonempty ι] (e : Operand → Value) (ty : TypeId) (k : Value → Prop)
theorem QuietO_v {op : Op} {s : Sem Value} (hs : execOp e ⟨none, op, ty, "", #[], none⟩ = (do pure (.value (← s)))) (v : Value) (h : ∀ i, s.run P (W i) = .ok v (W i)) : QuietO P W op ty e k = k v := by
  unfold QuietO RunQ
  have : ∀ i v', Oper.quietUpon P (fun w => ∃ j, w = W j) (W i) v' ((execOp e ⟨none, op, ty, "", #[], none⟩).run P (W i)) = (v = v') := by
    intro i v'
    rw [hs]
    simp only [Sem.run_bind, h, Result.andThen_ok, Sem.run_pure, Oper.quietUpon, true_and]
  simp only [this, forall_const, exists_eq_left']
theorem Q_move (x : Operand) : QuietO P W (.move x) ty e k = k (e x) := by
  unfold QuietO RunQ
  simp only [execOp, Sem.run_pure, Oper.quietUpon, true_and, forall_const, exists_eq_left']
theorem Q_assign (x : Operand) : QuietO P W (.assign x) ty e k = k (e x) := by
  unfold QuietO RunQ
  simp only [execOp, Sem.run_pure, Oper.quietUpon, true_and, forall_const, exists_eq_left']
theorem Q_makeFunc (f : Fn) (x y : Array Operand) : QuietO P W (.makeFunc f x y) ty e k = k (.func f (x.map e) (y.map e)) :=
  QuietO_v e ty k (s := pure (.func f (x.map e) (y.map e))) rfl _ (fun _ => rfl)
theorem Q_nilCheck (x : Operand) (q : Addr) (h : e x = .pointer (some q)) : QuietO P W (.nilCheck x) ty e k = k (.pointer (some q)) := by
  unfold QuietO RunQ
  simp only [execOp, h, Sem.run_pure, Oper.quietUpon, true_and, forall_const, exists_eq_left']
theorem Q_pick (c x y : Operand) (b : Bool) (h : e c = .bool b) : QuietO P W (.pick c x y) ty e k = k (if b then e x else e y) := by
  unfold QuietO RunQ
  have : ∀ w, (asBool (.bool b)).run P w = .ok b w := fun _ => rfl
  simp only [execOp, h, Sem.run_bind, this, Result.andThen_ok, Sem.run_pure, Oper.quietUpon, true_and, forall_const, exists_eq_left']
theorem Q_pick_t (c x y : Operand) (h : e c = .bool true) : QuietO P W (.pick c x y) ty e k = k (e x) := by rw [Q_pick e ty k c x y true h]; rfl
theorem Q_pick_f (c x y : Operand) (h : e c = .bool false) : QuietO P W (.pick c x y) ty e k = k (e y) := by rw [Q_pick e ty k c x y false h]; rfl
theorem Q_build (t : TypeId) (ps : Array (Nat × Operand)) (v : Value) (h : ∀ q, ((Instr.build t (ps.map fun (i, x) => (i, e x)))).run P (W q) = .ok v (W q)) : QuietO P W (.build t ps) ty e k = k v :=
  QuietO_v e ty k rfl v h
theorem Q_load (t : TypeId) (x : Operand) (v : Value) (h : ∀ q, ((Instr.loadAt t (e x))).run P (W q) = .ok v (W q)) : QuietO P W (.load t x) ty e k = k v :=
  QuietO_v e ty k rfl v h
theorem Q_load_fix {t : TypeId} {q : Addr} {v : Value} (h : ∀ i, (Instr.loadAt t (.pointer (some q))).run P (W i) = .ok v (W i)) (e : Operand → Value) (ty : TypeId) (k : Value → Prop) (x : Operand) (he : e x = .pointer (some q)) : QuietO P W (.load t x) ty e k = k v :=
  Q_load e ty k t x v (fun i => by rw [he]; exact h i)
theorem Q_binOp (op : BinOp) (t : TypeId) (x y : Operand) (u : TypeId) (v : Value) (h : ∀ q, ((do eqGuard op t x y (e x) (e y); binOp op t (e x) (e y))).run P (W q) = .ok v (W q)) : QuietO P W (.binOp op t x y u) ty e k = k v :=
  QuietO_v e ty k rfl v h
theorem Q_unOp (op : UnOp) (t : TypeId) (x : Operand) (v : Value) (h : ∀ q, ((Op.unary op (e x))).run P (W q) = .ok v (W q)) : QuietO P W (.unOp op t x) ty e k = k v :=
  QuietO_v e ty k rfl v h
theorem Q_convert (s t : TypeId) (x : Operand) (v : Value) (h : ∀ q, ((convert s t (e x))).run P (W q) = .ok v (W q)) : QuietO P W (.convert s t x) ty e k = k v :=
  QuietO_v e ty k rfl v h
theorem Q_makeInterface (t : TypeId) (x : Operand) (v : Value) (h : ∀ q, ((Instr.makeInterface t (e x))).run P (W q) = .ok v (W q)) : QuietO P W (.makeInterface t x) ty e k = k v :=
  QuietO_v e ty k rfl v h
theorem Q_slice (t : TypeId) (x : Operand) (lo hi mx : Option Operand) (v : Value) (h : ∀ q, ((Instr.sliceAt t (e x) (lo.map e) (hi.map e) (mx.map e))).run P (W q) = .ok v (W q)) : QuietO P W (.slice t x lo hi mx) ty e k = k v :=
  QuietO_v e ty k rfl v h
theorem Q_fieldAddr (t : TypeId) (x : Operand) (f : Nat) (v : Value) (h : ∀ q, ((Instr.fieldAt t (e x) f)).run P (W q) = .ok v (W q)) : QuietO P W (.fieldAddr t x f) ty e k = k v :=
  QuietO_v e ty k rfl v h
theorem Q_field (t : TypeId) (x : Operand) (f : Nat) (v : Value) (h : ∀ q, ((Instr.field t (e x) f)).run P (W q) = .ok v (W q)) : QuietO P W (.field t x f) ty e k = k v :=
  QuietO_v e ty k rfl v h
theorem Q_indexAddr (t : TypeId) (x y : Operand) (v : Value) (h : ∀ q, ((Instr.indexAt t (e x) (e y))).run P (W q) = .ok v (W q)) : QuietO P W (.indexAddr t x y) ty e k = k v :=
  QuietO_v e ty k rfl v h
theorem Q_index (t : TypeId) (x y : Operand) (v : Value) (h : ∀ q, ((Instr.index t (e x) (e y))).run P (W q) = .ok v (W q)) : QuietO P W (.index t x y) ty e k = k v :=
  QuietO_v e ty k rfl v h
theorem Q_lookup (t : TypeId) (x y : Operand) (ok : Bool) (v : Value) (h : ∀ q, ((Instr.lookup t (e x) (e y) ok)).run P (W q) = .ok v (W q)) : QuietO P W (.lookup t x y ok) ty e k = k v :=
  QuietO_v e ty k rfl v h
theorem Q_entry (x : Operand) (v : Value) (h : ∀ q, ((Instr.entry (e x))).run P (W q) = .ok v (W q)) : QuietO P W (.entry x) ty e k = k v :=
  QuietO_v e ty k rfl v h
theorem Q_extract (x : Operand) (i : Nat) (v : Value) (h : ∀ q, ((Instr.extract (e x) i)).run P (W q) = .ok v (W q)) : QuietO P W (.extract x i) ty e k = k v :=
  QuietO_v e ty k rfl v h
theorem Q_cap (ts : Array TypeId) (args : Array Operand) (v : Value) (h : ∀ q, ((Builtin.cap_ ts ty (args.map e))).run P (W q) = .ok v (W q)) : QuietO P W (.call ⟨.builtin .cap, args, ts⟩) ty e k = k v := by
  refine QuietO_v e ty k (s := (Builtin.cap_ ts ty (args.map e))) ?_ v h
  simp only [execOp, resolve, pure_bind, invoke, builtin]
theorem Q_len (ts : Array TypeId) (args : Array Operand) (v : Value) (h : ∀ q, ((Builtin.len_ ts ty (args.map e))).run P (W q) = .ok v (W q)) : QuietO P W (.call ⟨.builtin .len, args, ts⟩) ty e k = k v := by
  refine QuietO_v e ty k (s := (Builtin.len_ ts ty (args.map e))) ?_ v h
  simp only [execOp, resolve, pure_bind, invoke, builtin]
theorem Q_max (ts : Array TypeId) (args : Array Operand) (v : Value) (h : ∀ q, ((Builtin.max_ ts ty (args.map e))).run P (W q) = .ok v (W q)) : QuietO P W (.call ⟨.builtin .max, args, ts⟩) ty e k = k v := by
  refine QuietO_v e ty k (s := (Builtin.max_ ts ty (args.map e))) ?_ v h
  simp only [execOp, resolve, pure_bind, invoke, builtin]
theorem Q_min (ts : Array TypeId) (args : Array Operand) (v : Value) (h : ∀ q, ((Builtin.min_ ts ty (args.map e))).run P (W q) = .ok v (W q)) : QuietO P W (.call ⟨.builtin .min, args, ts⟩) ty e k = k v := by
  refine QuietO_v e ty k (s := (Builtin.min_ ts ty (args.map e))) ?_ v h
  simp only [execOp, resolve, pure_bind, invoke, builtin]

omit [Nonempty ι] in
end
theorem wpStill_of_opsQ {w : World} {n : Nat} {all : List Oper} {R : Act → Prop}
    (hR : ∀ a, a.tmps.size = n → a.defers = [] → Q (envOf a) → R a) :
    ∀ (l : List Oper) (a : Act), (∀ o ∈ l, ∀ d, o.dst = some d → d < n) → a.tmps.size = n → a.defers = [] →
      opsQ P (fun _ : Unit => w) Q (strip all l) (envOf a) → wpStill P all.toArray w R l a := by
  intro l
  induction l with
  | nil => intro a _ hs hd h; exact hR a hs hd h
  | cons o r ih =>
    intro a hl hs hd h
    have hdst : ∀ i, o.dst = some i → i < a.tmps.size := fun i hi => by rw [hs]; exact hl o (by simp) i hi
    have hr : ∀ o' ∈ r, ∀ d, o'.dst = some d → d < n := fun o' ho' => hl o' (by simp [ho'])
    have next : ∀ v, opsQ P (fun _ : Unit => w) Q (strip all r) (putE (envOf a) o.dst v) → wpStill P all.toArray w R r (a.put o.dst v) := by
      intro v hh
      refine ih _ hr (by rw [put_size]; exact hs) (by rw [put_defers]; exact hd) ?_
      rw [envOf_put a o.dst v hdst]; exact hh
    obtain ⟨d, op, t, p, af, g⟩ := o
    have hx : ∀ e, execOp e ⟨d, op, t, p, af, g⟩ = execOp e ⟨none, op, t, "", #[], none⟩ := fun e => rfl
    have quiet : QuietO P (fun _ : Unit => w) op t (evE (envOf a)) (fun v => opsQ P (fun _ : Unit => w) Q (strip all r) (putE (envOf a) d v)) → Oper.still P ⟨d, op, t, p, af, g⟩ a w (wpStill P all.toArray w R r) := by
      rintro ⟨v, h1, h2⟩
      have h3 := h1 ()
      unfold RunQ at h3
      unfold Oper.still
      rw [hx, ← evE_envOf]
      generalize (execOp (evE (envOf a)) ⟨none, op, t, "", #[], none⟩).run P w = res at h3 ⊢
      cases res with
      | halt x w' => exact h3.elim
      | ok nx w' =>
        cases nx <;> simp only [Oper.quietUpon] at h3 <;> simp only [Oper.stillUpon]
        case value u =>
          obtain ⟨e1, e2⟩ := h3
          subst e2
          exact ⟨e1, next _ h2⟩
        case skip =>
          obtain ⟨e1, e2⟩ := h3
          subst e2
          exact ⟨e1, next _ h2⟩
        case enter f args =>
          obtain ⟨e1, hc⟩ := h3
          exact ⟨e1, v, hc.mono (fun e w'' ⟨he, j, hw⟩ => ⟨he, hw⟩), next v h2⟩
    unfold wpStill
    cases g with
    | none =>
      simp only [Region.wanted, if_true]
      exact quiet h
    | some g =>
      obtain ⟨j, want⟩ := g
      simp only [strip, opsQ] at h
      simp only [Region.wanted, ← yieldE_envOf, yieldE, dstOf_eq]
      cases hd' : dstOf j all with
      | none =>
        rw [hd'] at h
        exact next undef h
      | some dj =>
        rw [hd'] at h
        simp only [GuardO] at h
        have key := guard_key (envOf a dj) want (Oper.still P ⟨d, op, t, p, af, some (j, want)⟩ a w (wpStill P all.toArray w R r)) (wpStill P all.toArray w R r (a.put d undef))
        refine key.symm ▸ ?_
        simp only [GuardE] at h ⊢
        cases hv : envOf a dj with
        | bool b =>
          rw [hv] at h
          simp only at h ⊢
          cases hb : b == want with
          | true => rw [hb] at h; exact quiet h
          | false => rw [hb] at h; exact next undef h
        | _ =>
          rw [hv] at h
          exact next undef h
/-! ### scripts: pure operations may be taken first; a group that leaves the world alone, in one order; what comes up alone -/
/-- the operations that wait for i, through others -/
def downs (md : Region.Mode) (ops : Array Oper) (i : Nat) : List Nat :=
  (List.range ops.size).foldl (fun acc t => if acc.any fun j => Region.waitsFor md ops t j then t :: acc else acc) [i]
theorem downs_spec {md : Region.Mode} {ops : Array Oper} {i : Nat} {listed : Array Bool} (inv : HeadInv md ops ops.size listed) {t : Nat} (ht : t ∈ downs md ops i)
    (h : t ∈ Region.ready md ops listed) (hne : t ≠ i) : listed.getD i false = true := by
  have key : ∀ (l : List Nat) (acc : List Nat), (∀ t ∈ acc, listed.getD t false = true → listed.getD i false = true) → (∀ t ∈ acc, t ∈ Region.ready md ops listed → t ≠ i → listed.getD i false = true) →
      (∀ t ∈ l.foldl (fun acc t => if acc.any fun j => Region.waitsFor md ops t j then t :: acc else acc) acc, listed.getD t false = true → listed.getD i false = true) ∧
      (∀ t ∈ l.foldl (fun acc t => if acc.any fun j => Region.waitsFor md ops t j then t :: acc else acc) acc, t ∈ Region.ready md ops listed → t ≠ i → listed.getD i false = true) := by
    intro l
    induction l with
    | nil => intro acc h1 h2; exact ⟨h1, h2⟩
    | cons x l ih =>
      intro acc h1 h2
      simp only [List.foldl_cons]
      by_cases hx : (acc.any fun j => Region.waitsFor md ops x j) = true
      · rw [if_pos hx]
        obtain ⟨j, hj, hw⟩ := List.any_eq_true.1 hx
        obtain ⟨ox, hox, e, he, hb, hon⟩ := Region.waitsFor_spec hw
        refine ih _ ?_ ?_
        · intro t ht hl
          rcases List.mem_cons.1 ht with rfl | ht
          · exact h1 j hj (by rw [← hon]; exact inv.closed _ ox hox hl e he hb)
          · exact h1 t ht hl
        · intro t ht hr hne
          rcases List.mem_cons.1 ht with rfl | ht
          · obtain ⟨_, o', ho', hall⟩ := mem_ready.1 hr
            have : o' = ox := Option.some.inj (ho'.symm.trans hox)
            subst this
            exact h1 j hj (by rw [← hon]; exact hall e he hb)
          · exact h2 t ht hr hne
      · rw [if_neg hx]
        exact ih _ h1 h2
  refine (key (List.range ops.size) [i] ?_ ?_).2 t ht h hne
  · intro t ht hl; simp at ht; subst ht; exact hl
  · intro t ht _ hne; simp at ht; exact absurd ht hne
theorem hinv_zero (md : Region.Mode) (ops : Array Oper) : HeadInv md ops ops.size (Array.replicate ops.size false) :=
  ⟨by simp, fun j oj _ hl => (by rw [getD_replicate_false] at hl; cases hl), fun t h1 h2 => by omega⟩
theorem hinv_step {md : Region.Mode} {ops : Array Oper} {i : Nat} {listed : Array Bool} (inv : HeadInv md ops ops.size listed) (hi : i ∈ Region.ready md ops listed) : HeadInv md ops ops.size (listed.setIfInBounds i true) :=
  inv.set hi (by obtain ⟨_, o, ho, _⟩ := mem_ready.1 hi; exact (Array.getElem?_eq_some_iff.1 ho).1)
/-- whatever is not listed and not in the group waits for each one of the group -/
def waitsAll (md : Region.Mode) (ops : Array Oper) (is : List Nat) (listed : Array Bool) : Bool :=
  is.all fun i => (List.range ops.size).all fun t => listed.getD t true || is.contains t || (downs md ops i).contains t
def WaitsAll (md : Region.Mode) (ops : Array Oper) (is : List Nat) (listed : Array Bool) : Prop :=
  ∀ i ∈ is, ∀ t, listed.getD t true = false → t ∉ is → t ∈ downs md ops i
theorem waitsAll_spec {md : Region.Mode} {ops : Array Oper} {is : List Nat} {listed : Array Bool} (inv : HeadInv md ops ops.size listed) (h : waitsAll md ops is listed = true) : WaitsAll md ops is listed := by
  intro i hi t ht hn
  have hlt : t < ops.size := by
    rw [← inv.size]
    rcases Nat.lt_or_ge t listed.size with h' | h'
    · exact h'
    · simp [Array.getElem?_eq_none h'] at ht
  have := List.all_eq_true.1 (List.all_eq_true.1 h i hi) t (List.mem_range.2 hlt)
  simp only [Bool.or_eq_true, ht, Bool.false_eq_true, false_or, List.contains_iff_mem] at this
  exact this.resolve_left hn
theorem WaitsAll.step {md : Region.Mode} {ops : Array Oper} {is : List Nat} {listed : Array Bool} (h : WaitsAll md ops is listed) (j : Nat) : WaitsAll md ops is (listed.setIfInBounds j true) := by
  intro i hi t ht hn
  refine h i hi t ?_ hn
  by_cases hjt : j = t
  · subst hjt
    rcases Nat.lt_or_ge j listed.size with h' | h'
    · simp [h'] at ht
    · simp [Array.getElem?_eq_none h'] at ht
  · rw [getD_set_ne true hjt] at ht; exact ht
theorem WaitsAll.ready {md : Region.Mode} {ops : Array Oper} {is : List Nat} {listed : Array Bool} (h : WaitsAll md ops is listed) (inv : HeadInv md ops ops.size listed) {i : Nat} (hi : i ∈ is) (hun : listed.getD i true = false)
    {t : Nat} (ht : t ∈ Region.ready md ops listed) : t ∈ is := by
  apply Classical.byContradiction
  intro hn
  have h1 := downs_spec inv (h i hi t (mem_ready.1 ht).1 hn) ht (fun e => hn (e ▸ hi))
  rw [getD_both hun] at h1
  cases h1
theorem group_first {w : World} {md : Region.Mode} {ops : Array Oper} {is : List Nat} {i : Nat} {oi : Oper} {v : Value} {L : Array Bool → Act → Prop} (hi : ops[i]? = some oi)
    (hsel : ∀ (j : Nat) (o : Oper) cs b, ops[j]? = some o → o.op ≠ .select cs b) (hin : i ∈ is) (hdone : ∀ listed a, L listed a → ∀ j ∈ Region.ready md ops listed, j ∉ is) :
    ∀ (f : Nat) (listed : Array Bool) (a : Act), HeadInv md ops ops.size listed → WaitsAll md ops is listed →
      (∀ j oj, ops[j]? = some oj → j ≠ i → listed.getD j true = false → (∀ e ∈ oj.after, Region.binds md e = true → e.on ≠ i) → oi.apart ops oj = true) →
      i ∈ Region.ready md ops listed → YieldsAt P ops w oi v a →
      wpAnyL P md ops w ops.size L f (listed.setIfInBounds i true) (a.put oi.dst v) → wpAnyL P md ops w ops.size L (f + 1) listed a := by
  intro f
  induction f with
  | zero =>
    intro listed a inv hw _ hr hy H
    refine ⟨fun h => (by rw [h] at hr; cases hr), fun j hj => ⟨by obtain ⟨_, o, ho, _⟩ := mem_ready.1 hj; exact (Array.getElem?_eq_some_iff.1 ho).1, ?_⟩⟩
    by_cases hji : j = i
    · subst hji; exact hy.stOp hi H
    · exact absurd (hw.ready inv hin (mem_ready.1 hr).1 hj) (hdone _ _ H j (ready_mono hj hji))
  | succ f ih =>
    intro listed a inv hw hfree hr hy H
    have hun := (mem_ready.1 hr).1
    refine ⟨fun h => (by rw [h] at hr; cases hr), fun j hj => ⟨by obtain ⟨_, o, ho, _⟩ := mem_ready.1 hj; exact (Array.getElem?_eq_some_iff.1 ho).1, ?_⟩⟩
    by_cases hji : j = i
    · subst hji; exact hy.stOp hi H
    · obtain ⟨hjun, oj, hoj, hall⟩ := mem_ready.1 hj
      have hnot : ∀ e ∈ oj.after, Region.binds md e = true → e.on ≠ i := fun e he hb heq => by
        have h1 := hall e he hb
        rw [heq, getD_both hun] at h1
        cases h1
      refine stOp_mono (fun a' h3 => ih (listed.setIfInBounds j true) a' (hinv_step inv hj) (hw.step j) (fun k ok hk hki hkun hno => ?_) (ready_mono hr (Ne.symm hji)) h3.1 ?_)
        (stOp_put hoj (hfree j oj hoj hji hjun hnot) (fun cs b => hsel i oi cs b hi) (fun cs b => hsel j oj cs b hoj) hy (H.2 j (ready_mono hj hji)).2)
      · refine hfree k ok hk hki ?_ hno
        by_cases hjk : j = k
        · subst hjk; exact hjun
        · rw [getD_set_ne true hjk] at hkun; exact hkun
      · rw [Array.setIfInBounds_comm _ _ hji]
        exact h3.2
/-- the group's own order; it yields what is listed behind it -/
def groupLex (md : Region.Mode) (ops : Array Oper) : List Nat → Array Bool → Option (Array Bool)
  | [], listed => some listed
  | k :: r, listed => if (Region.ready md ops listed).contains k && Region.free md ops listed k then groupLex md ops r (listed.setIfInBounds k true) else none
theorem groupLex_inv {md : Region.Mode} {ops : Array Oper} : ∀ (l : List Nat) (listed l' : Array Bool), groupLex md ops l listed = some l' → HeadInv md ops ops.size listed → HeadInv md ops ops.size l'
  | [], listed, l', h, inv => by simp only [groupLex, Option.some.injEq] at h; exact h ▸ inv
  | k :: r, listed, l', h, inv => by
    unfold groupLex at h
    split at h
    · rename_i hc
      simp only [Bool.and_eq_true] at hc
      exact groupLex_inv r _ _ h (hinv_step inv (by simpa using hc.1))
    · cases h
theorem group_lex {w : World} {md : Region.Mode} {ops : Array Oper} {is : List Nat} {Lq : Act → Prop} {l' : Array Bool} (hsel : Region.noSelect ops = true) (hend : (is.all fun i => !(Region.ready md ops l').contains i) = true) :
    ∀ (r : List Nat) (listed : Array Bool) (a : Act), (∀ i ∈ r, i ∈ is) → groupLex md ops r listed = some l' → HeadInv md ops ops.size listed → WaitsAll md ops is listed →
      wpStill P ops w Lq (r.filterMap fun i => ops[i]?) a → wpAnyL P md ops w ops.size (fun l'' a' => l'' = l' ∧ Lq a') r.length listed a
  | [], listed, a, _, h, _, _, hw => by
    simp only [groupLex, Option.some.injEq] at h
    exact ⟨h, hw⟩
  | k :: r, listed, a, hr, h, inv, hwt, hw => by
    unfold groupLex at h
    split at h
    · rename_i hc
      simp only [Bool.and_eq_true] at hc
      have hk : k ∈ Region.ready md ops listed := by simpa using hc.1
      obtain ⟨_, ok, hok, _⟩ := mem_ready.1 hk
      simp only [List.filterMap_cons, hok] at hw
      have hst : stOp P ops w k (wpStill P ops w Lq (r.filterMap fun i => ops[i]?)) a := by unfold stOp; simp only [hok]; exact hw
      obtain ⟨v, hy, hK⟩ := yieldsAt_of_stOp hok hst
      refine group_first (is := is) hok (Region.noSelect_spec hsel) (hr k (by simp)) ?_ r.length listed a inv hwt (Region.free_spec hok hc.2) hk hy
        (group_lex hsel hend r _ _ (fun i hi => hr i (by simp [hi])) h (hinv_step inv hk) (hwt.step k) hK)
      rintro l'' a' ⟨rfl, _⟩ j hj hin
      have := List.all_eq_true.1 hend j hin
      simp only [Bool.not_eq_true', List.contains_eq_mem, decide_eq_false_iff_not] at this
      exact this hj
    · cases h
/-- ends with a value, where it ends -/
def OnlyV (P : Program) (s : Sem Next) : Prop := ∀ w w' n, s.run P w = .ok n w' → ∃ u, n = .value u
theorem OnlyV.pure (v : Value) : OnlyV P (pure (.value v) : Sem Next) := by
  intro w w' n h
  simp only [Sem.run_pure, Result.ok.injEq] at h
  exact ⟨v, h.1.symm⟩
theorem OnlyV.bind {α : Type} {m : Sem α} {f : α → Sem Next} (h : ∀ a, OnlyV P (f a)) : OnlyV P (m >>= f) := by
  intro w w' n hr
  rw [Sem.run_bind] at hr
  generalize m.run P w = r at hr
  cases r with
  | halt x w1 => cases hr
  | ok u w1 => exact h u _ _ _ hr
theorem OnlyV.panic (v : Value) : OnlyV P (goPanic v : Sem Next) := by intro w w' n h; cases h
theorem OnlyV.rtPanic (x : RuntimeError) : OnlyV P (runtimePanic x : Sem Next) := by
  unfold runtimePanic
  refine OnlyV.bind fun p => ?_
  cases x <;> first | exact OnlyV.panic _ | exact OnlyV.bind fun _ => OnlyV.bind fun _ => OnlyV.panic _
def readK : Op → Bool
  | .move _ => true
  | .assign _ => true
  | .nilCheck _ => true
  | .fieldAddr .. => true
  | .indexAddr .. => true
  | .index .. => true
  | .field .. => true
  | .load .. => true
  | .binOp .. => true
  | .unOp .. => true
  | .convert .. => true
  | .extract .. => true
  | .build .. => true
  | .makeFunc .. => true
  | .pick .. => true
  | .slice .. => true
  | _ => false
theorem onlyV_read {op : Op} {t : TypeId} {e : Operand → Value} (hp : readK op = true) : OnlyV P (execOp e ⟨none, op, t, "", #[], none⟩) := by
  cases op <;> simp [readK] at hp
  case nilCheck x =>
    simp only [execOp]
    split
    · exact OnlyV.rtPanic _
    · exact OnlyV.rtPanic _
    · exact OnlyV.rtPanic _
    · split
      · exact OnlyV.rtPanic _
      · refine OnlyV.bind fun p => OnlyV.bind fun q => ?_
        split
        · exact OnlyV.bind fun _ => OnlyV.pure _
        · exact OnlyV.pure _
      · exact OnlyV.pure _
    · exact OnlyV.pure _
  case pick c x y =>
    simp only [execOp]
    exact OnlyV.bind fun b => OnlyV.pure _
  all_goals first
    | exact OnlyV.pure _
    | exact OnlyV.bind fun u => OnlyV.pure _
/-! ### readers, and one that acts: what is read stays (S) -/
theorem RunQ_read {S : World → Prop} {op : Op} {t : TypeId} {e : Operand → Value} {v : Value} (hp : readK op = true) (h : ∀ i : { w : World // S w }, RunQ P (fun i : { w : World // S w } => i.1) op t e i v) :
    ∀ w, S w → (execOp e ⟨none, op, t, "", #[], none⟩).run P w = .ok (.value v) w := by
  intro w hw
  have h1 := h ⟨w, hw⟩
  unfold RunQ at h1
  simp only at h1
  generalize hr : (execOp e ⟨none, op, t, "", #[], none⟩).run P w = r at h1
  cases r with
  | halt x w' => exact h1.elim
  | ok n w' =>
    obtain ⟨u, rfl⟩ := onlyV_read hp w w' n hr
    simp only [Oper.quietUpon] at h1
    obtain ⟨h1, h2⟩ := h1
    first | (subst h1; subst h2; rfl) | (obtain ⟨h3, h4⟩ := h2; subst h1; subst h3; rfl)
def wpAnyHL (P : Program) (md : Region.Mode) (ops : Array Oper) (Q : Exit → Act → World → Prop) (S : World → Prop) (L : Array Bool → Act → World → Prop) : Nat → Array Bool → Act → World → Prop
  | 0, listed, a, w => L listed a w
  | f + 1, listed, a, w => Region.ready md ops listed ≠ [] ∧ ∀ i ∈ Region.ready md ops listed, wpOp P ops Q i (fun a' w' => S w' ∧ wpAnyHL P md ops Q S L f (listed.setIfInBounds i true) a' w') a w
theorem wpAny_of_HL {md : Region.Mode} {ops : Array Oper} {Q : Exit → Act → World → Prop} {S : World → Prop} {L : Array Bool → Act → World → Prop} {g : Nat} (hL : ∀ listed a w, L listed a w → wpAny P md ops Q g listed a w) :
    ∀ (f : Nat) (listed : Array Bool) (a : Act) (w : World), wpAnyHL P md ops Q S L f listed a w → wpAny P md ops Q (f + g) listed a w
  | 0, listed, a, w, h => by rw [Nat.zero_add]; exact hL _ _ _ h
  | f + 1, listed, a, w, h => by
    rw [show f + 1 + g = (f + g) + 1 by omega]
    exact ⟨fun h0 => absurd h0 h.1, fun i hi => wpOp_mono (fun a' w' h' => wpAny_of_HL hL f _ a' w' h'.2) (h.2 i hi)⟩
theorem heldL_first {md : Region.Mode} {ops : Array Oper} {is : List Nat} {i : Nat} {oi : Oper} {v : Value} {Q : Exit → Act → World → Prop} {S : World → Prop} {L : Array Bool → Act → World → Prop} (hi : ops[i]? = some oi)
    (hsel : ∀ (j : Nat) (o : Oper) cs b, ops[j]? = some o → o.op ≠ .select cs b) (hQ : ∀ c a w, ¬ Q (.panic c) a w) (hin : i ∈ is) (hdone : ∀ listed a w, L listed a w → ∀ j ∈ Region.ready md ops listed, j ∉ is) :
    ∀ (f : Nat) (listed : Array Bool) (a : Act) (w : World), HeadInv md ops ops.size listed → WaitsAll md ops is listed →
      (∀ j oj, ops[j]? = some oj → j ≠ i → listed.getD j true = false → (∀ e ∈ oj.after, Region.binds md e = true → e.on ≠ i) → oi.apart ops oj = true) →
      i ∈ Region.ready md ops listed → YieldsIf P ops S oi v a → S w →
      wpAnyHL P md ops Q S L f (listed.setIfInBounds i true) (a.put oi.dst v) w → wpAnyHL P md ops Q S L (f + 1) listed a w := by
  intro f
  induction f with
  | zero =>
    intro listed a w inv hw _ hr hy hS H
    refine ⟨fun h => (by rw [h] at hr; cases hr), fun j hj => ?_⟩
    by_cases hji : j = i
    · subst hji; exact hy.wpOp hi hS ⟨hS, H⟩
    · exact absurd (hw.ready inv hin (mem_ready.1 hr).1 hj) (hdone _ _ _ H j (ready_mono hj hji))
  | succ f ih =>
    intro listed a w inv hw hfree hr hy hS H
    have hun := (mem_ready.1 hr).1
    refine ⟨fun h => (by rw [h] at hr; cases hr), fun j hj => ?_⟩
    by_cases hji : j = i
    · subst hji; exact hy.wpOp hi hS ⟨hS, H⟩
    · obtain ⟨hjun, oj, hoj, hall⟩ := mem_ready.1 hj
      have hnot : ∀ e ∈ oj.after, Region.binds md e = true → e.on ≠ i := fun e he hb heq => by
        have h1 := hall e he hb
        rw [heq, getD_both hun] at h1
        cases h1
      refine wpOp_mono (fun a' w' h3 => ⟨h3.2.1, ih (listed.setIfInBounds j true) a' w' (hinv_step inv hj) (hw.step j) (fun k ok hk hki hkun hno => ?_) (ready_mono hr (Ne.symm hji)) h3.1 h3.2.1 ?_⟩)
        (wpOp_putIf hoj (hfree j oj hoj hji hjun hnot) (fun cs b => hsel i oi cs b hi) (fun cs b => hsel j oj cs b hoj) (fun c a w h => absurd h (hQ c _ _)) hy (H.2 j (ready_mono hj hji)))
      · refine hfree k ok hk hki ?_ hno
        by_cases hjk : j = k
        · subst hjk; exact hjun
        · rw [getD_set_ne true hjk] at hkun; exact hkun
      · rw [Array.setIfInBounds_comm _ _ hji]
        exact h3.2.2
inductive Ph where
  | pure (i : Nat)
  | still (is : List Nat)
  | one (i : Nat)
  | held (is : List Nat) (j : Nat)
def Ph.len : Ph → Nat
  | .pure _ => 1
  | .still is => is.length
  | .one _ => 1
  | .held is _ => is.length + 1
def scriptLen : List Ph → Nat
  | [] => 0
  | p :: r => p.len + scriptLen r
/-- only the normal exit -/
def onlyN (K : Act → World → Prop) : Exit → Act → World → Prop := fun e a w => match e with
  | .normal => K a w
  | _ => False
theorem upon_onlyN {o : Oper} {a : Act} {K K' : Act → World → Prop} {Q' : Exit → Act → World → Prop} {r : Result Next} (h : o.upon P a K (onlyN K') r) : o.upon P a K Q' r := by
  cases r with
  | ok n w' =>
    cases n <;> simp only [Oper.upon] at h ⊢
    case enter f args =>
      refine Calls.mono h fun e w'' he => ?_
      cases e with
      | returned u => exact he
      | panicked c => exact he.elim
      | outgrown => obtain ⟨_, _, h⟩ := he; exact h.elim
    all_goals exact h
  | halt x w' => cases x <;> simp only [Oper.upon] at h ⊢ <;> exact h.elim
theorem wpOp_onlyN {ops : Array Oper} {i : Nat} {oi : Oper} {a : Act} {w : World} {K : Act → World → Prop} {Q' : Exit → Act → World → Prop} (hi : ops[i]? = some oi) (h : wpList P ops (onlyN K) [oi] a w) : wpOp P ops Q' i K a w := by
  unfold wpOp
  simp only [hi]
  simp only [wpList] at h
  by_cases hw : Region.wanted oi (yielded ops a.tmps) = true
  · rw [if_pos hw] at h ⊢
    rcases h with h | ⟨_, _, _, h⟩
    · exact .inl (upon_onlyN h)
    · exact h.elim
  · rw [if_neg hw] at h ⊢
    exact h
theorem value_only (s : Sem Value) (w w' : World) (n : Next) (h : Sem.run P (do pure (.value (← s)) : Sem Next) w = .ok n w') : ∃ u, n = .value u := by
  rw [Sem.run_bind] at h
  generalize s.run P w = r at h
  cases r with
  | halt x w1 => cases h
  | ok u w1 => simp only [Result.andThen_ok, Sem.run_pure, Result.ok.injEq] at h; exact ⟨u, h.1.symm⟩
def pureK : Op → Bool
  | .move _ => true
  | .assign _ => true
  | .fieldAddr .. => true
  | .makeFunc .. => true
  | _ => false
theorem runQ_pure {op : Op} {t : TypeId} {e : Operand → Value} {v : Value} (w : World) (hp : pureK op = true)
    (h : RunQ P (fun w : World => w) op t e w v) : (execOp e ⟨none, op, t, "", #[], none⟩).run P w = .ok (.value v) w := by
  unfold RunQ at h
  generalize hr : (execOp e ⟨none, op, t, "", #[], none⟩).run P w = r at h
  cases r with
  | halt x w' => exact h.elim
  | ok n w' =>
    have hv : ∃ u, n = .value u := by
      cases op <;> simp [pureK] at hp
      case move x => exact value_only (pure (e x)) w w' n (by simpa only [execOp, pure_bind] using hr)
      case assign x => exact value_only (pure (e x)) w w' n (by simpa only [execOp, pure_bind] using hr)
      case fieldAddr t x f => exact value_only _ w w' n hr
      case makeFunc f x y => exact value_only _ w w' n hr
    obtain ⟨u, rfl⟩ := hv
    simp only [Oper.quietUpon] at h
    obtain ⟨h1, h2⟩ := h
    first | (subst h1; subst h2; rfl) | (obtain ⟨h3, h4⟩ := h2; subst h1; subst h3; rfl)
def pureOp (ops : Array Oper) (i : Nat) : Bool :=
  match ops[i]? with
  | some o => pureK o.op
  | none => false
def readOp (ops : Array Oper) (i : Nat) : Bool :=
  match ops[i]? with
  | some o => readK o.op
  | none => false
def chk (md : Region.Mode) (ops : Array Oper) : List Ph → Array Bool → Bool
  | [], listed => (Region.ready md ops listed).isEmpty
  | .pure i :: r, listed => (Region.ready md ops listed).contains i && Region.free md ops listed i && pureOp ops i && chk md ops r (listed.setIfInBounds i true)
  | .one i :: r, listed => decide (Region.ready md ops listed = [i]) && chk md ops r (listed.setIfInBounds i true)
  | .still is :: r, listed => waitsAll md ops is listed && match groupLex md ops is listed with
    | some l' => (is.all fun i => !(Region.ready md ops l').contains i) && chk md ops r l'
    | none => false
  | .held is j :: r, listed => waitsAll md ops (is ++ [j]) listed && is.all (readOp ops) && match groupLex md ops is listed with
    | some l' => decide (Region.ready md ops l' = [j]) && ((is ++ [j]).all fun i => !(Region.ready md ops (l'.setIfInBounds j true)).contains i) && chk md ops r (l'.setIfInBounds j true)
    | none => false
def opsPh (P : Program) (all : List Oper) (K : Env → World → Prop) : List Ph → Env → World → Prop
  | [], ρ, w => K ρ w
  | .pure i :: r, ρ, w => opsQ P (fun w : World => w) (fun ρ' => opsPh P all K r ρ' w) (strip all ((all[i]?).toList)) ρ
  | .one i :: r, ρ, w => opsS P (fun ρ' w' => opsPh P all K r ρ' w') (strip all ((all[i]?).toList)) ρ w
  | .still is :: r, ρ, w => opsQ P (fun _ : Unit => w) (fun ρ' => opsPh P all K r ρ' w) (strip all (is.filterMap fun i => all[i]?)) ρ
  | .held is j :: r, ρ, w => ∃ S : World → Prop, S w ∧ opsQ P (fun i : { w : World // S w } => i.1) (fun ρ' => opsS P (fun ρ'' w'' => S w'' ∧ opsPh P all K r ρ'' w'') (strip all ((all[j]?).toList)) ρ' w) (strip all (is.filterMap fun i => all[i]?)) ρ
theorem opsQ_single {ι : Type} {W : ι → World} {all : List Oper} {o : Oper} {ρ : Env} {Q : Env → Prop} (h : opsQ P W Q (strip all [o]) ρ) :
    (Region.wanted o (yieldE all.toArray ρ) = true ∧ QuietO P W o.op o.type (evE ρ) (fun v => Q (putE ρ o.dst v))) ∨ (Region.wanted o (yieldE all.toArray ρ) = false ∧ Q (putE ρ o.dst undef)) := by
  obtain ⟨d, op, t, p, af, g⟩ := o
  cases g with
  | none => exact .inl ⟨by simp [Region.wanted], h⟩
  | some g =>
    obtain ⟨j, want⟩ := g
    simp only [strip, opsQ] at h
    simp only [Region.wanted, yieldE, dstOf_eq]
    cases hd' : dstOf j all with
    | none => rw [hd'] at h; exact .inr ⟨rfl, h⟩
    | some dj =>
      rw [hd'] at h
      simp only [GuardO, GuardE] at h
      simp only
      cases hv : ρ dj with
      | bool b =>
        rw [hv] at h
        simp only at h ⊢
        cases hb : b == want with
        | true => rw [hb] at h; exact .inl ⟨by simpa using hb, h⟩
        | false => rw [hb] at h; exact .inr ⟨by simpa using hb, h⟩
      | _ => rw [hv] at h; exact .inr ⟨rfl, h⟩
theorem opsQ_append {ι : Type} {W : ι → World} {Q : Env → Prop} : ∀ (l1 l2 : List SOp) (ρ : Env), opsQ P W Q (l1 ++ l2) ρ = opsQ P W (fun ρ' => opsQ P W Q l2 ρ') l1 ρ
  | [], l2, ρ => rfl
  | ⟨d, op, t, none⟩ :: r, l2, ρ => by
    have : (fun v => opsQ P W Q (r ++ l2) (putE ρ d v)) = fun v => opsQ P W (fun ρ' => opsQ P W Q l2 ρ') r (putE ρ d v) := funext fun v => opsQ_append r l2 _
    simp only [List.cons_append, opsQ, this]
  | ⟨d, op, t, some (g, want)⟩ :: r, l2, ρ => by
    have : (fun v => opsQ P W Q (r ++ l2) (putE ρ d v)) = fun v => opsQ P W (fun ρ' => opsQ P W Q l2 ρ') r (putE ρ d v) := funext fun v => opsQ_append r l2 _
    simp only [List.cons_append, opsQ, this, opsQ_append r l2 (putE ρ d undef)]
theorem opsPh_sound {n : Nat} {all : List Oper} {K : Env → World → Prop} {Q' : Exit → Act → World → Prop} (hlt : ∀ o ∈ all, ∀ d, o.dst = some d → d < n) (hsel : Region.noSelect all.toArray = true)
    (hQ : ∀ a w, a.tmps.size = n → a.defers = [] → K (envOf a) w → Q' .normal a w) (hP : ∀ c a w, ¬ Q' (.panic c) a w) :
    ∀ (ps : List Ph) (listed : Array Bool) (a : Act) (w : World), chk .any all.toArray ps listed = true → HeadInv .any all.toArray all.toArray.size listed → a.tmps.size = n → a.defers = [] →
      opsPh P all K ps (envOf a) w → wpAny P .any all.toArray Q' (scriptLen ps) listed a w := by
  intro ps
  induction ps with
  | nil =>
    intro listed a w hc _ hs hd h
    exact ⟨by simpa [chk] using hc, hQ a w hs hd h⟩
  | cons ph r ih =>
    intro listed a w hc inv hs hd h
    have mem : ∀ {i : Nat} {o : Oper}, all[i]? = some o → o ∈ all := fun h => List.mem_of_getElem? h
    cases ph with
    | pure i =>
      simp only [chk, Bool.and_eq_true] at hc
      obtain ⟨⟨⟨hr, hf⟩, hp⟩, hc⟩ := hc
      have hk : i ∈ Region.ready .any all.toArray listed := by simpa using hr
      obtain ⟨_, oi, hoi, _⟩ := mem_ready.1 hk
      have hoi' : all[i]? = some oi := by simpa using hoi
      unfold pureOp at hp
      rw [hoi] at hp
      simp only [opsPh, hoi', Option.toList] at h
      have hdst : ∀ d, oi.dst = some d → d < a.tmps.size := fun d hd' => by rw [hs]; exact hlt oi (mem hoi') d hd'
      have next : ∀ v, opsPh P all K r (putE (envOf a) oi.dst v) w → wpAny P .any all.toArray Q' (scriptLen r) (listed.setIfInBounds i true) (a.put oi.dst v) w := fun v hv =>
        ih _ _ _ hc (hinv_step inv hk) (by rw [put_size]; exact hs) (by rw [put_defers]; exact hd) (by rw [envOf_put a oi.dst v hdst]; exact hv)
      show wpAny P .any all.toArray Q' (1 + scriptLen r) listed a w
      rw [Nat.add_comm 1]
      rcases opsQ_single h with ⟨hw, v, h1, h2⟩ | ⟨hw, h2⟩
      · refine wpAny_take hoi hsel hf hr (fun c a w h => absurd h (hP c _ _)) (.inl ⟨by rw [yieldE_envOf] at hw; exact hw, fun w' => ?_⟩) (next v h2)
        have := runQ_pure w' hp (h1 w')
        rw [evE_envOf] at this
        exact this
      · exact wpAny_take hoi hsel hf hr (fun c a w h => absurd h (hP c _ _)) (.inr ⟨by rw [yieldE_envOf] at hw; exact hw, rfl⟩) (next undef h2)
    | one i =>
      simp only [chk, Bool.and_eq_true, decide_eq_true_eq] at hc
      obtain ⟨hr, hc⟩ := hc
      have hk : i ∈ Region.ready .any all.toArray listed := by rw [hr]; simp
      obtain ⟨_, oi, hoi, _⟩ := mem_ready.1 hk
      have hoi' : all[i]? = some oi := by simpa using hoi
      simp only [opsPh, hoi', Option.toList] at h
      show wpAny P .any all.toArray Q' (1 + scriptLen r) listed a w
      rw [Nat.add_comm 1]
      refine wpAny_all hr (by simp) (fun j hj => ?_)
      have hji : j = i := by simpa using hj
      subst hji
      rw [← opsE_strip] at h
      refine wpOp_onlyN hoi (wpList_of_opsE (n := n) (K := fun ρ' w' => opsPh P all K r ρ' w') ?_ [oi] a w (by intro o ho; simp at ho; subst ho; exact hlt o (mem hoi')) hs hd h)
      intro a' w' h1 h2 h3
      exact ih _ _ _ hc (hinv_step inv hk) h1 h2 h3
    | still is =>
      simp only [chk, Bool.and_eq_true] at hc
      obtain ⟨hwt, hc⟩ := hc
      cases hg : groupLex .any all.toArray is listed with
      | none => rw [hg] at hc; cases hc
      | some l' =>
        rw [hg] at hc
        simp only [Bool.and_eq_true] at hc
        obtain ⟨hend, hc⟩ := hc
        have hwt' := waitsAll_spec inv hwt
        simp only [opsPh] at h
        have H := group_lex (P := P) (w := w) (md := .any) (Lq := fun a' => a'.tmps.size = n ∧ a'.defers = [] ∧ opsPh P all K r (envOf a') w) hsel hend is listed a (fun i hi => hi) hg inv hwt' (by
          simp only [List.getElem?_toArray]
          refine wpStill_of_opsQ (n := n) (fun a' h1 h2 h3 => ⟨h1, h2, h3⟩) _ a ?_ hs hd h
          intro o ho d hd'
          obtain ⟨i, _, hi⟩ := List.mem_filterMap.1 ho
          exact hlt o (mem hi) d hd')
        refine wpAny_of_head (g := scriptLen r) (fun l'' a' hL => ?_) is.length listed a H
        obtain ⟨rfl, h1, h2, h3⟩ := hL
        exact ih _ _ _ hc (groupLex_inv _ _ _ hg inv) h1 h2 h3
    | held is j =>
      simp only [chk, Bool.and_eq_true] at hc
      obtain ⟨⟨hwt, hrd⟩, hc⟩ := hc
      cases hg : groupLex .any all.toArray is listed with
      | none => rw [hg] at hc; cases hc
      | some l' =>
        rw [hg] at hc
        simp only [Bool.and_eq_true, decide_eq_true_eq] at hc
        obtain ⟨⟨hrj, hend⟩, hc⟩ := hc
        have hwt' := waitsAll_spec inv hwt
        simp only [opsPh] at h
        obtain ⟨S, hS, h⟩ := h
        have inv' := groupLex_inv _ _ _ hg inv
        have hkj : j ∈ Region.ready .any all.toArray l' := by rw [hrj]; simp
        obtain ⟨_, oj, hoj, _⟩ := mem_ready.1 hkj
        have hoj' : all[j]? = some oj := by simpa using hoj
        rw [hoj'] at h
        simp only [Option.toList] at h
        let L : Array Bool → Act → World → Prop := fun l'' a' w' => l'' = l'.setIfInBounds j true ∧ a'.tmps.size = n ∧ a'.defers = [] ∧ opsPh P all K r (envOf a') w'
        have hdone : ∀ l'' a' w', L l'' a' w' → ∀ i ∈ Region.ready .any all.toArray l'', i ∉ is ++ [j] := by
          rintro l'' a' w' ⟨rfl, _⟩ i hi hin
          have := List.all_eq_true.1 hend i hin
          simp only [Bool.not_eq_true', List.contains_eq_mem, decide_eq_false_iff_not] at this
          exact this hi
        have key : ∀ (r1 : List Nat) (l1 : Array Bool) (a1 : Act), (∀ i ∈ r1, i ∈ is) → groupLex .any all.toArray r1 l1 = some l' → HeadInv .any all.toArray all.toArray.size l1 → WaitsAll .any all.toArray (is ++ [j]) l1 → a1.tmps.size = n → a1.defers = [] →
            opsQ P (fun i : { w : World // S w } => i.1) (fun ρ' => opsS P (fun ρ'' w'' => S w'' ∧ opsPh P all K r ρ'' w'') (strip all [oj]) ρ' w) (strip all (r1.filterMap fun i => all[i]?)) (envOf a1) →
            wpAnyHL P .any all.toArray Q' S L (r1.length + 1) l1 a1 w := by
          intro r1
          induction r1 with
          | nil =>
            intro l1 a1 _ hl _ _ hs1 hd1 h1
            simp only [groupLex, Option.some.injEq] at hl
            subst hl
            refine ⟨by rw [hrj]; simp, fun i hi => ?_⟩
            rw [hrj] at hi
            have hij : i = j := by simpa using hi
            subst hij
            change opsS P (fun ρ'' w'' => S w'' ∧ opsPh P all K r ρ'' w'') (strip all [oj]) (envOf a1) w at h1
            rw [← opsE_strip] at h1
            refine wpOp_onlyN hoj (wpList_of_opsE (n := n) (K := fun ρ'' w'' => S w'' ∧ opsPh P all K r ρ'' w'') ?_ [oj] a1 w (by intro o ho; simp at ho; subst ho; exact hlt o (mem hoj')) hs1 hd1 h1)
            intro a' w' g1 g2 g3
            exact ⟨g3.1, rfl, g1, g2, g3.2⟩
          | cons i r1 ih1 =>
            intro l1 a1 hin hl inv1 hw1 hs1 hd1 h1
            unfold groupLex at hl
            split at hl
            · rename_i hci
              simp only [Bool.and_eq_true] at hci
              have hk : i ∈ Region.ready .any all.toArray l1 := by simpa using hci.1
              obtain ⟨_, oi, hoi, _⟩ := mem_ready.1 hk
              have hoi' : all[i]? = some oi := by simpa using hoi
              have hri := List.all_eq_true.1 hrd i (hin i (by simp))
              unfold readOp at hri
              rw [hoi] at hri
              simp only [List.filterMap_cons, hoi'] at h1
              rw [show strip all (oi :: r1.filterMap fun i => all[i]?) = strip all [oi] ++ strip all (r1.filterMap fun i => all[i]?) by obtain ⟨d, op, t, p, af, g⟩ := oi; cases g <;> rfl, opsQ_append] at h1
              have hdst : ∀ d, oi.dst = some d → d < a1.tmps.size := fun d hd' => by rw [hs1]; exact hlt oi (mem hoi') d hd'
              have hfin := fun v hv => ih1 (l1.setIfInBounds i true) (a1.put oi.dst v) (fun k hk => hin k (by simp [hk])) hl (hinv_step inv1 hk) (hw1.step i) (by rw [put_size]; exact hs1) (by rw [put_defers]; exact hd1) (by rw [envOf_put a1 oi.dst v hdst]; exact hv)
              rcases opsQ_single h1 with ⟨hw, v, g1, g2⟩ | ⟨hw, g2⟩
              · refine heldL_first (is := is ++ [j]) hoi (Region.noSelect_spec hsel) hP (by simp [hin i (by simp)]) hdone (r1.length + 1) l1 a1 w inv1 hw1 (Region.free_spec hoi hci.2) hk (.inl ⟨by rw [yieldE_envOf] at hw; exact hw, fun w' hw' => ?_⟩) hS (hfin v g2)
                have := RunQ_read hri g1 w' hw'
                rw [evE_envOf] at this
                exact this
              · exact heldL_first (is := is ++ [j]) hoi (Region.noSelect_spec hsel) hP (by simp [hin i (by simp)]) hdone (r1.length + 1) l1 a1 w inv1 hw1 (Region.free_spec hoi hci.2) hk (.inr ⟨by rw [yieldE_envOf] at hw; exact hw, rfl⟩) hS (hfin undef g2)
            · cases hl
        refine wpAny_of_HL (g := scriptLen r) (fun l'' a' w' hL => ?_) (is.length + 1) listed a w (key is listed a (fun i hi => hi) hg inv hwt' hs hd h)
        obtain ⟨rfl, h1, h2, h3⟩ := hL
        exact ih _ _ _ hc (hinv_step inv' hkj) h1 h2 h3
/-- a region that draws its order: by a script -/
theorem draw_script {n id : Nat} {l : List Oper} {K : Env → World → Prop} {w : World} {ρ : Env} (ps : List Ph) (hm : P.follows .mixedOrders = true) (hB : (Region.noSelect l.toArray && chk .any l.toArray ps (Array.replicate l.toArray.size false) && decide (scriptLen ps = l.toArray.size)) = true) (hn : opsLt n l.toArray = true)
    (h : opsPh P l K ps ρ w.drew) : DrawE P n id l.toArray K ρ w := by
  intro a hs hd he
  subst he
  simp only [Bool.and_eq_true, decide_eq_true_eq] at hB
  refine wp_region_any hm ?_
  have := opsPh_sound (P := P) (Q' := fun e a' w' => a'.tmps.size = n ∧ a'.defers = [] ∧ thenE K (fun _ _ _ => False) e (envOf a') w') (opsLt_spec hn) hB.1.1 (fun a w g1 g2 g3 => ⟨g1, g2, g3⟩) (fun c a w h => h.2.2) ps _ a w.drew hB.1.2 (hinv_zero _ _) hs hd h
  rw [hB.2] at this
  exact this
theorem opsPh_nil {all : List Oper} {K : Env → World → Prop} {ρ : Env} {w : World} : opsPh P all K [] ρ w = K ρ w := (rfl)
def contP (P : Program) (all : List Oper) (K : Env → World → Prop) (r : List Ph) (w : World) (ρ : Env) : Prop := opsPh P all K r ρ w
theorem contP_app {all : List Oper} {K : Env → World → Prop} {r : List Ph} {ρ : Env} {w : World} : contP P all K r w ρ = opsPh P all K r ρ w := (rfl)
theorem opsPh_pure {all : List Oper} {K : Env → World → Prop} {r : List Ph} {ρ : Env} {w : World} (i : Nat) : opsPh P all K (.pure i :: r) ρ w = opsQ P (fun w : World => w) (contP P all K r w) (strip all ((all[i]?).toList)) ρ := (rfl)
theorem opsPh_one {all : List Oper} {K : Env → World → Prop} {r : List Ph} {ρ : Env} {w : World} (i : Nat) : opsPh P all K (.one i :: r) ρ w = opsS P (opsPh P all K r) (strip all ((all[i]?).toList)) ρ w := (rfl)
theorem opsPh_still {all : List Oper} {K : Env → World → Prop} {r : List Ph} {ρ : Env} {w : World} (is : List Nat) : opsPh P all K (.still is :: r) ρ w = opsQ P (fun _ : Unit => w) (contP P all K r w) (strip all (is.filterMap fun i => all[i]?)) ρ := (rfl)
theorem opsPh_held {all : List Oper} {K : Env → World → Prop} {r : List Ph} {ρ : Env} {w : World} (is : List Nat) (j : Nat) (S : World → Prop) (hS : S w)
    (h : opsQ P (fun i : { w : World // S w } => i.1) (fun ρ' => opsS P (fun ρ'' w'' => S w'' ∧ opsPh P all K r ρ'' w'') (strip all ((all[j]?).toList)) ρ' w) (strip all (is.filterMap fun i => all[i]?)) ρ) : opsPh P all K (.held is j :: r) ρ w := ⟨S, hS, h⟩
end
attribute [go_sem] opsPh_nil contP_app opsPh_pure opsPh_one opsPh_still
attribute [go_sem] contQ_app opsQ_nil opsQ_plain guardQ_t guardQ_f guardQ_u Q_move Q_assign Q_makeFunc Q_nilCheck Q_pick_t Q_pick_f Q_build Q_load Q_binOp Q_unOp Q_convert Q_makeInterface Q_slice Q_fieldAddr Q_field Q_indexAddr Q_index Q_lookup Q_entry Q_extract Q_cap Q_len Q_max Q_min
end Go.Eng
namespace Go.Eng
open Go
set_option linter.unusedSimpArgs false
set_option linter.unusedVariables false
/-! ### numbers -/
def u8V (b : UInt8) : Value := .int .u8 (b.toNat : Int)
theorem u8_is (l : List UInt8) : ∀ u ∈ l.map u8V, IsU8 u := by
  intro u hu
  obtain ⟨b, _, rfl⟩ := List.mem_map.1 hu
  exact ⟨b, rfl⟩
/-- n's lowest k digits to the base 256, the lowest first -/
def leB (n : Nat) : Nat → List UInt8
  | 0 => []
  | k + 1 => UInt8.ofNat n :: leB (n / 256) k
theorem leB_len : ∀ (k n : Nat), (leB n k).length = k
  | 0, _ => rfl
  | k + 1, n => by simp [leB, leB_len k]
theorem leB_snoc : ∀ (k n : Nat), leB n (k + 1) = leB n k ++ [UInt8.ofNat (n / 256 ^ k)]
  | 0, n => by simp [leB]
  | k + 1, n => by
    rw [leB, leB_snoc k (n / 256), leB, List.cons_append, Nat.div_div_eq_div_mul, Nat.pow_succ, Nat.mul_comm (256 ^ k)]
def numB : List UInt8 → Nat
  | [] => 0
  | b :: r => b.toNat + 256 * numB r
theorem numB_lt : ∀ l : List UInt8, numB l < 256 ^ l.length
  | [] => by simp [numB]
  | b :: r => by
    have := numB_lt r
    have hb : b.toNat < 256 := b.toNat_lt
    simp only [numB, List.length_cons, Nat.pow_succ]
    omega
theorem numB_append : ∀ a b : List UInt8, numB (a ++ b) = numB a + 256 ^ a.length * numB b
  | [], b => by simp [numB]
  | x :: a, b => by
    simp only [List.cons_append, numB, numB_append a b, List.length_cons, Nat.pow_succ, Nat.mul_add]
    rw [Nat.mul_comm (256 ^ a.length) 256, Nat.mul_assoc, Nat.add_assoc]
theorem numB_leB : ∀ (k n : Nat), numB (leB n k) = n % 256 ^ k
  | 0, n => by simp [leB, numB, Nat.mod_one]
  | k + 1, n => by
    simp only [leB, numB, numB_leB k]
    rw [Nat.pow_succ, Nat.mul_comm (256 ^ k), Nat.mod_mul]
    simp
theorem leB_numB : ∀ l : List UInt8, leB (numB l) l.length = l
  | [] => rfl
  | b :: r => by
    have hb : b.toNat < 256 := b.toNat_lt
    simp only [numB, List.length_cons, leB]
    have h1 : (b.toNat + 256 * numB r) / 256 = numB r := by omega
    rw [h1, leB_numB r]
    congr 1
    apply UInt8.toNat_inj.1
    simp
/-! ### rows of bytes -/
/-- v is a slice that reads as these bytes -/
def CapOk : Value → Prop
  | .slice _ n cap => n ≤ cap
  | _ => True
def BytesAt (w : World) (v : Value) (l : List UInt8) : Prop := RowAt w 1 v l.length (l.map u8V) ∧ CapOk v
theorem capOk_own {w : World} {base n : Nat} {e : TypeId} {size : Nat} {v : Value} {xs : List Value} (h : w.ownsX base e size v n xs) : CapOk v := by
  rcases h.row.2 with ⟨rfl, rfl⟩ | ⟨b, cap, cur, rfl, _, _, hnc, _⟩
  · exact Nat.le_refl _
  · exact hnc
theorem BytesAt.keep {S : Nat → Prop} {w w' : World} {v : Value} {l : List UInt8} (h : BytesAt w v l) (hu : Upd S w w') (hn : ∀ b, v.ownBlock = some b → ¬ S b) : BytesAt w' v l := ⟨RowAt.keep h.1 hu hn, h.2⟩
theorem BytesAt.keep0 {w w' : World} {v : Value} {l : List UInt8} (h : BytesAt w v l) (hu : Upd noB w w') : BytesAt w' v l := ⟨RowAt.keep h.1 hu (fun _ _ h => h), h.2⟩
theorem BytesAt.len {w : World} {v : Value} {l : List UInt8} (h : BytesAt w v l) : ∃ p cap, v = .slice p l.length cap ∧ l.length ≤ cap := by
  obtain ⟨p, cap, rfl⟩ := RowAt.len h.1
  exact ⟨p, cap, rfl, h.2⟩
theorem bytesAt_nil (w : World) (p : Option Addr) (cap : Nat) : BytesAt w (.slice p 0 cap) [] := ⟨⟨by simp, Or.inl ⟨p, cap, rfl, rfl⟩⟩, Nat.zero_le _⟩
section
variable {P : Program} {w : World} {t e : TypeId}
theorem BytesAt.at {v : Value} {l : List UInt8} (h : BytesAt w v l) (ht : P.underlying t = some (.slice e)) (hs : ∀ w, (Go.sizeOf e).run P w = .ok 1 w) (ha : ∀ w, (isAgg e).run P w = .ok false w) (k : Nat) (hk : k < l.length) :
    ∃ q, (∀ kk W, (Instr.indexAt t v (.int kk k)).run P W = .ok (.pointer (some q)) W) ∧ (Instr.loadAt e (.pointer (some q))).run P w = .ok (.int .u8 (l[k].toNat : Int)) w ∧ ∀ K, K_load P e (.pointer (some q)) w K = K (.int .u8 (l[k].toNat : Int)) w := by
  have hx : (l.map u8V)[k]? = some (.int .u8 (l[k].toNat : Int)) := by rw [List.getElem?_map, List.getElem?_eq_getElem hk]; rfl
  obtain ⟨b, off, c, te, f, _, hi, hb, hle, hc⟩ := RowAt.index h.1 ht hs k hk
  have key : (Instr.loadAt e (.pointer (some ⟨b, off + k * 1, none⟩))).run P w = .ok (.int .u8 (l[k].toNat : Int)) w := by
    have h0 := hc 0 (by omega)
    simp only [Nat.mul_one, Nat.add_zero] at h0
    rw [hx] at h0
    simp only [Instr.loadAt, Instr.sureAddr, Sem.run_bind, Sem.run_pure, Result.andThen_ok, loadVar, ha, Bool.false_eq_true, if_false, run_load, cell?_at, hb, cellIn_some, Nat.mul_one, h0]
  refine ⟨_, ?_, key, fun K => K_load_ok K _ _ key⟩
  intro kk W
  obtain ⟨p, cap, rfl, _⟩ := h.len
  have h2 := hi kk
  cases p with
  | none => simp [Instr.indexAt, asIntOf, run_underlying ht, hs, hk] at h2; cases ‹(Value.slice none l.length cap).ownBlock = some b›
  | some p =>
    simp [Instr.indexAt, asIntOf, run_underlying ht, hs, hk] at h2 ⊢
    exact h2
/-- a part of it -/
theorem BytesAt.cut {p : Option Addr} {cap lo hi m : Nat} {l : List UInt8} (h : BytesAt w (.slice p l.length cap) l) (h1 : lo ≤ hi) (h2 : hi ≤ l.length) (h3 : hi ≤ m) : BytesAt w (sliced p lo hi m 1) ((l.drop lo).take (hi - lo)) := by
  have hlen : ((l.drop lo).take (hi - lo)).length = hi - lo := by simp; omega
  refine ⟨?_, by unfold sliced; exact Nat.sub_le_sub_right h3 _⟩
  rw [hlen]
  refine ⟨by simp; omega, ?_⟩
  by_cases h0 : hi - lo = 0
  · rw [h0]
    exact Or.inl ⟨_, _, by unfold sliced; rw [h0], rfl⟩
  · rcases h.1.2 with ⟨p', cap', hv, hn⟩ | ⟨b, off, cap', c, te, f, hv, hb, hle, htake⟩
    · omega
    · injection hv with hp _ hcap
      subst hp hcap
      have hm : ¬ m = lo := by omega
      refine Or.inr ⟨b, off + lo, m - lo, c, te, f, ?_, hb, by omega, ?_⟩
      · unfold sliced
        simp [hm, addr_add]
      · apply List.ext_getElem?
        intro j
        rw [List.getElem?_take, List.getElem?_map, List.getElem?_take]
        by_cases hj : j < hi - lo
        · rw [if_pos (by omega), if_pos hj, List.getElem?_drop, List.getElem?_drop, ← List.getElem?_map, ← htake, List.getElem?_take, if_pos (by omega), List.getElem?_drop]
          congr 1; omega
        · rw [if_neg (by omega), if_neg hj]; rfl
/-! ### own rows of bytes -/
variable {size bytes : Nat}
theorem SlT.append_row (T : SlT P t e size bytes) {base : Nat} {v s : Value} {n m : Nat} {xs news : List Value} (own : w.ownsX base e size v n xs) (src : RowAt w size s m news) (ty : TypeId) (h1 : ∀ u ∈ news, u.oneCell' = true)
    (hroom : (n + m) * bytes ≤ 140737488355328) (hmax : n + m ≤ maxLen) (hbase : base ≤ w.heap.size) (h8 : e = 5 → ∀ u ∈ news, IsU8 u := by first | exact fun h => absurd h (by decide) | exact fun _ => u8_is _) :
    ∃ v' w', (Builtin.append_ #[t, t] ty #[v, s]).run P w = .ok v' w' ∧ w'.ownsX base e size v' (n + m) (xs ++ news) ∧ w.grownBy w' v.ownBlock := by
  obtain ⟨i, z, hi, hz, hs, hb, hzs⟩ := T.info
  rcases src.2 with ⟨p, cap, rfl, rfl⟩ | ⟨b, off, cap, c, te, f, rfl, hbb, hle, htake⟩
  · have hn : news = [] := List.eq_nil_of_length_eq_zero (by simpa using src.1)
    subst hn
    cases p with
    | some a =>
      obtain ⟨v', w', h1, h2, h3, _⟩ := run_append_own w base t ty e i z size bytes T.ht hi hz hs hb hzs T.pos v n xs own.row a 0 cap [] (by simp) (by simp) (by simp) hmax hroom hbase
      exact ⟨v', w', h1, ⟨h2, T.fills own ty a 0 cap [] (by simp) (by simp) (by simp) (by simp) hmax hroom h1⟩, h3⟩
    | none =>
      refine ⟨v, w, ?_, by simpa using own, rfl, rfl, rfl, Nat.le_refl _, fun _ _ _ => rfl⟩
      rcases own.row.2 with ⟨rfl, rfl⟩ | ⟨g, cap', cur, rfl, hbg, hg, hnc, hcm, hcs, htake⟩
      · simp [Builtin.append_, run_underlying T.ht, sizeOf, typeInfo, hi, Builtin.lenOf, Builtin.firstCells]
      · simp [Builtin.append_, run_underlying T.ht, sizeOf, typeInfo, hi, Builtin.lenOf, Builtin.firstCells, hnc, storeCells]
  · obtain ⟨v', w', h2, h3, h4, _⟩ := T.append own ty hbb news htake.symm hle h1 hroom hmax hbase (c := cap) h8
    exact ⟨v', w', h2, h3, h4⟩
/-- a block of one-cell things is a row of the call's own -/
theorem own_block {base b cap : Nat} {c : Array Value} (hb : w.heap[b]? = some (.cells c e (0, 0))) (hbase : base ≤ b) (hc : c.size = cap) (hmax : cap ≤ maxLen) (h8 : e = 5 → ∀ u ∈ c.toList, IsU8 u := by first | exact fun h => absurd h (by decide) | exact fun _ => u8_is _) : w.ownsX base e 1 (.slice (some ⟨b, 0, none⟩) cap cap) cap c.toList :=
  ⟨⟨by simp [hc], Or.inr ⟨b, cap, c, rfl, hbase, hb, Nat.le_refl _, hmax, by simp [hc], by rw [List.take_of_length_le (by simp [hc])]⟩⟩, full_cells hb h8⟩
theorem SlT.makeB (T : SlT P t e 1 1) (hz : ∀ i, P.info? e = some i → i.zero = some (.int .u8 0)) (n : Nat) (hn : n ≤ 281474976710656) (kl kc : IntKind) :
    (Instr.makeSlice t (.int kl n) (.int kc n)).run P w = .ok (.slice (some ⟨w.heap.size, 0, none⟩) n n) (w.alloc (.cells ((List.replicate n (0 : UInt8)).map u8V).toArray e)) := by
  obtain ⟨i, z, hi, hz', hs, hb, hzs⟩ := T.info
  have hz2 : z = .int .u8 0 := by have := hz i hi; rw [hz'] at this; exact Option.some.inj this
  subst hz2
  have := run_make (P := P) w t e i (.int .u8 0) T.ht hi hz' kl kc n n (by omega) (by omega) (by rw [hb]; omega) (by omega)
  rw [this]
  congr 3
  · apply Array.ext_getElem?
    intro j
    simp only [madeCells, hs, Int.toNat_natCast, Nat.mul_one]
    by_cases hj : j < n
    · simp [hj, Value.cells, u8V, List.getElem?_replicate, Nat.mod_one]
    · simp [hj, List.getElem?_replicate]
/-! ### a slice that is written out -/
theorem fold_put : ∀ (l : List Value) (k o : Nat) (a : Array Value), o + k + l.length ≤ a.size →
    ((l.zipIdx k).foldl (fun cs (x : Value × Nat) => cs.setIfInBounds (o + x.2) x.1) a).toList = a.toList.take (o + k) ++ l ++ a.toList.drop (o + k + l.length)
  | [], k, o, a, h => by simp
  | x :: l, k, o, a, h => by
    simp only [List.length_cons] at h
    simp only [List.zipIdx_cons, List.foldl_cons]
    rw [fold_put l (k + 1) o _ (by simp; omega)]
    have hl2 : a.toList.length = a.size := Array.length_toList
    have hlt : o + k < a.toList.length := by omega
    have e1 : (a.setIfInBounds (o + k) x).toList = a.toList.set (o + k) x := by simp
    rw [e1, ← Nat.add_assoc, List.take_succ_eq_append_getElem (by simp; omega), List.take_set_of_le (by omega), List.drop_set_of_lt (by omega)]
    simp only [List.getElem_set_self, List.append_assoc, List.cons_append, List.nil_append, List.length_cons]
    rw [show o + k + 1 + l.length = o + k + (l.length + 1) by omega]
theorem fill_row (s : Nat) : ∀ (L : List (Nat × Value)) (j : Nat) (a : Array Value), L.map (·.1) = List.range' j L.length → (∀ p ∈ L, p.2.cells.size = s) → (j + L.length) * s ≤ a.size →
    ∃ c, Instr.fill (fun i => some (i * s, s)) a L = some c ∧ c.toList = a.toList.take (j * s) ++ L.flatMap (fun p => p.2.cells.toList) ++ a.toList.drop ((j + L.length) * s)
  | [], j, a, _, _, _ => ⟨a, rfl, by simp⟩
  | (i, v) :: L, j, a, h, hs, ha => by
    have hi : i = j ∧ L.map (·.1) = List.range' (j + 1) L.length := by
      simp only [List.map_cons, List.length_cons, List.range'_succ, List.cons.injEq] at h
      exact h
    obtain ⟨rfl, hr⟩ := hi
    have hv : v.cells.size = s := hs (i, v) (by simp)
    simp only [List.length_cons] at ha
    have hmul : (i + (L.length + 1)) * s = i * s + s + L.length * s := by simp only [Nat.add_mul]; omega
    have hle : i * s + s ≤ a.size := by omega
    have hf := fold_put v.cells.toList 0 (i * s) a (by simp [hv]; omega)
    obtain ⟨b, hb⟩ : ∃ b, b = v.cells.zipIdx.foldl (fun cs (x : Value × Nat) => cs.setIfInBounds (i * s + x.2) x.1) a := ⟨_, rfl⟩
    have hb' : b.toList = a.toList.take (i * s) ++ v.cells.toList ++ a.toList.drop (i * s + s) := by
      rw [hb, ← Array.foldl_toList, Array.toList_zipIdx, hf]
      simp [hv]
    have hbs : b.size = a.size := by
      rw [← Array.length_toList, hb']; simp [hv]; omega
    obtain ⟨c, hc, hcl⟩ := fill_row s L (i + 1) b hr (fun p hp => hs p (by simp [hp])) (by
      have e2 : (i + 1 + L.length) * s = i * s + s + L.length * s := by simp only [Nat.add_mul]; omega
      omega)
    refine ⟨c, ?_, ?_⟩
    · have h1 : (v.cells.size ≠ s || decide (i * s + v.cells.size > a.size)) = false := by simp [hv]; omega
      simp only [Instr.fill, h1, Bool.false_eq_true, if_false]
      rw [← hb]
      exact hc
    · have e1 : (i + 1) * s = i * s + s := by simp [Nat.add_mul]
      have e2 : (i + 1 + L.length) * s = i * s + s + L.length * s := by simp only [Nat.add_mul]; omega
      have hl : (a.toList.take (i * s) ++ v.cells.toList).length = i * s + s := by simp [hv]; omega
      rw [hcl, e1, e2, hb', List.take_left' hl, List.length_cons, hmul]
      have : i * s + s + L.length * s = (a.toList.take (i * s) ++ v.cells.toList).length + L.length * s := by omega
      conv => lhs; rw [this]
      rw [List.drop_append]
      simp only [List.flatMap_cons, List.append_assoc]
      rw [List.drop_eq_nil_of_le (by omega), List.nil_append, List.drop_drop]
      congr 4
      omega
theorem SlT.buildN (T : SlT P t e size bytes) (n : Nat) (ps : Array (Nat × Value)) (h : ps.toList.map (·.1) = List.range n) (hs : ∀ p ∈ ps.toList, p.2.cells.size = size) (hn : n * size ≤ 16777216) (h0 : 0 < n) (k : Value → World → Prop) :
    K_buildSlice P t n ps w k = k (.slice (some ⟨w.heap.size, 0, none⟩) n n) (w.alloc (.cells (ps.toList.flatMap (fun p => p.2.cells.toList)).toArray e)) := by
  obtain ⟨i, z, hi, hz, hsz, hb, hzs⟩ := T.info
  have hlen : ps.toList.length = n := by rw [← List.length_map (f := (·.1)), h, List.length_range]
  have hpos := T.pos
  have hp : ¬ n * size = 0 := by
    have := Nat.mul_pos h0 hpos
    omega
  have h24 : ¬ (16777216 < n * size) := by omega
  have hinfo : ∀ w, (typeInfo e).run P w = .ok i w := fun w => by simp [typeInfo, hi]
  have hzero : ∀ w, (zeroValue e).run P w = .ok z w := fun w => by simp [zeroValue, hinfo, hz]
  have hsize : ∀ w, (Go.sizeOf e).run P w = .ok size w := fun w => by simp [Go.sizeOf, hinfo, hsz]
  obtain ⟨c, hc, hcl⟩ := fill_row size ps.toList 0 ((Array.range (n * size)).map (z.cells[· % z.cells.size]!)) (by rw [h, hlen, List.range_eq_range']) hs (by simp [hlen])
  have hce : c = (ps.toList.flatMap (fun p => p.2.cells.toList)).toArray := by
    apply Array.toList_inj.1
    rw [hcl]
    simp [hlen, List.drop_eq_nil_of_le]
  subst hce
  refine K_buildSlice_ok _ _ _ _ ?_
  simp [Instr.buildSlice, run_underlying T.ht, hsize, hp, h24, hzero, hc, newRow]
/-- a world by a name of its own -/
theorem gen_call {f : FuncId} {args : Array Value} {k : Value → World → Prop} {W : World} (h : ∀ W2, W2 = W → CallP P f args W2 k) : CallP P f args W k := h W rfl
theorem gen_den {n : Nat} {c : Code} {K : Exit → Env → World → Prop} {ρ : Env} {W : World} (h : ∀ W2, W2 = W → den P n c K ρ W2) : den P n c K ρ W := h W rfl
theorem gen_draw {n id : Nat} {ops : Array Oper} {K : Env → World → Prop} {ρ : Env} {W : World} (h : ∀ W2, W2 = W → DrawE P n id ops K ρ W2) : DrawE P n id ops K ρ W := h W rfl
theorem gen_load {t : TypeId} {x : Value} {k : Value → World → Prop} {W : World} (h : ∀ W2, W2 = W → K_load P t x W2 k) : K_load P t x W k := h W rfl
/-! ### results that lie in a cell -/
theorem run_loadVar_agg {n b o : Nat} {cs : List Value} (ha : (isAgg t).run P w = .ok true w) (hs : (Go.sizeOf t).run P w = .ok n w) (hb : cutIn (w.heap[b]?) o n = some cs) : (loadVar t ⟨b, o, none⟩).run P w = .ok (.agg cs.toArray) w := by
  obtain ⟨c, te, f, hb2, hle, rfl⟩ := cutIn_spec hb
  simp only [Sem.run_bind, loadVar, ha, Result.andThen_ok, if_true, hs, loadCells]
  rw [run_loadCells b o hb2 n 0 #[] (by omega)]
  simp
def K_cell (P : Program) (t : TypeId) (x : Value) (w : World) (k : Value → Prop) : Prop := ∃ v, (do loadVar t (← asAddr x) : Sem Value).run P w = .ok v w ∧ k v
theorem K_cell_agg {n b o : Nat} {cs : List Value} (k : Value → Prop) (ha : (isAgg t).run P w = .ok true w) (hs : (Go.sizeOf t).run P w = .ok n w) (hb : cutIn (w.heap[b]?) o n = some cs) : K_cell P t (.pointer (some ⟨b, o, none⟩)) w k = k (.agg cs.toArray) := by
  have h := run_loadVar_agg ha hs hb
  have h2 : (asAddr (.pointer (some ⟨b, o, none⟩))).run P w = .ok ⟨b, o, none⟩ w := rfl
  unfold K_cell
  simp [h, h2]
theorem RetR_c1 (a : Tmp) (ρ : Env) (k : Value → World → Prop) : RetR P #[.cell a t] ρ w k = K_cell P t (ρ a) w (fun v => k v w) := by
  unfold RetR K_cell
  simp [Result.andThen]
theorem RetR_c2 (a u : Tmp) (ρ : Env) (k : Value → World → Prop) : RetR P #[.cell a t, .tmp u] ρ w k = K_cell P t (ρ a) w (fun v => k (.tuple #[v, ρ u]) w) := by
  unfold RetR K_cell
  simp [Result.andThen]
  cases h1 : (asAddr (ρ a)).run P w with
  | halt x w1 => simp
  | ok q w1 =>
    simp only
    cases h2 : (loadVar t q).run P w1 with
    | halt x w2 => simp
    | ok v w2 =>
      simp
      constructor
      · rintro ⟨_, ⟨rfl, hw⟩, hk⟩; exact ⟨v, ⟨rfl, hw⟩, hk⟩
      · rintro ⟨_, ⟨rfl, hw⟩, hk⟩; exact ⟨_, ⟨rfl, hw⟩, hk⟩
/-! ### a whole block, stored -/
def wholeAt : Option Obj → Array Value → Option Obj
  | some (.cells c te (0, 0)), cs => if c.size = cs.size then some (.cells cs te (0, 0)) else none
  | _, _ => none
theorem wholeAt_some (c : Array Value) (te : TypeId) (cs : Array Value) : wholeAt (some (.cells c te (0, 0))) cs = if c.size = cs.size then some (.cells cs te (0, 0)) else none := (rfl)
theorem wholeAt_spec {x : Option Obj} {cs : Array Value} {y : Obj} (h : wholeAt x cs = some y) : ∃ c te, x = some (.cells c te (0, 0)) ∧ c.size = cs.size ∧ y = .cells cs te (0, 0) := by
  unfold wholeAt at h
  split at h
  · split at h
    · rename_i hc; cases h; exact ⟨_, _, rfl, hc, rfl⟩
    · cases h
  · cases h
/-- cells that are one cell each -/
def oneAll (cs : Array Value) : Bool := cs.toList.all fun v => v.oneCell'
theorem oneAll_mk (l : List Value) : oneAll l.toArray = l.all fun v => v.oneCell' := (rfl)
theorem K_store_whole (t : TypeId) (b : Nat) (cs : Array Value) (k : World → Prop) {y : Obj} (hy : wholeAt (w.heap[b]?) cs = some y) (hs : (Go.sizeOf t).run P w = .ok cs.size w) (h1 : oneAll cs = true) :
    K_store P t (.pointer (some ⟨b, 0, none⟩)) (.agg cs) w k = k (w.setB b y) := by
  obtain ⟨c, te, hb, hc, rfl⟩ := wholeAt_spec hy
  refine K_store_agg t b 0 cs k ?_ hs h1
  rw [hb, putsAt_some, if_pos (by omega)]
  congr 2
  apply Array.toList_inj.1
  simp [hc]
theorem K_store_part (t : TypeId) (b o : Nat) (cs : Array Value) (k : World → Prop) {y : Obj} (hy : putsAt (w.heap[b]?) o cs = some y) (hs : (Go.sizeOf t).run P w = .ok cs.size w) (h1 : oneAll cs = true) :
    K_store P t (.pointer (some ⟨b, o, none⟩)) (.agg cs) w k = k (w.setB b y) := K_store_agg t b o cs k hy hs h1
theorem get_of {o : Obj} {b : Nat} (h : w.heap[b]? = some o) (hp : b < w.heap.size) : w.heap[b] = o := (Array.getElem?_eq_some_iff.1 h).2
/-! ### arrays of bytes, compared -/
theorem part_u8 (he : (isAgg e).run P w = .ok false w) (l : List UInt8) (j : Nat) (hj : j < l.length) : (part e (l.map u8V).toArray j).run P w = .ok (u8V l[j]) w := by
  simp [part, he, hj]
theorem eql_u8V (he : P.underlying e = some (.int .u8)) (d : Nat) (x y : UInt8) : (Op.equalIn (d + 1) e (u8V x) (u8V y)).run P w = .ok (x == y) w := by
  unfold u8V
  rw [run_equalIn_int w d e .u8 .u8 _ _ he]
  congr 1
  rw [Bool.eq_iff_iff]
  simp only [beq_iff_eq]
  rw [← UInt8.toNat_inj]
  omega
theorem eqItems_u8 (he : P.underlying e = some (.int .u8)) (ha : ∀ w, (isAgg e).run P w = .ok false w) (d : Nat) (a b : List UInt8) (hl : a.length = b.length) : ∀ (m j : Nat), j + m = a.length →
    (Op.eqItems (d + 1) e 1 (a.map u8V).toArray (b.map u8V).toArray (List.range' j m)).run P w = .ok (a.drop j == b.drop j) w
  | 0, j, h => by
    rw [List.drop_of_length_le (by omega), List.drop_of_length_le (by omega)]
    simp [Op.eqItems]
  | m + 1, j, h => by
    have ih := eqItems_u8 he ha d a b hl m (j + 1) (by omega)
    have h1 : j < a.length := by omega
    have h2 : j < b.length := by omega
    rw [List.range'_succ, List.drop_eq_getElem_cons h1, List.drop_eq_getElem_cons h2]
    simp only [Op.eqItems, Nat.mul_one, Sem.run_bind, part_u8 (ha w) a j h1, part_u8 (ha w) b j h2, Result.andThen_ok, eql_u8V he]
    generalize a[j] = x
    generalize b[j] = y
    generalize a.drop (j + 1) = A at *
    generalize b.drop (j + 1) = B at *
    rw [show (x :: A == y :: B) = (x == y && A == B) from rfl]
    cases hxy : (x == y)
    · simp
    · simp only [Bool.not_true, Bool.false_eq_true, if_false, Bool.true_and]
      exact ih
theorem eql_bytes {n : Nat} {i : TypeInfo} (hu : P.underlying t = some (.array n e)) (hi : P.info? e = some i) (he : P.underlying e = some (.int .u8)) (ha : ∀ w, (isAgg e).run P w = .ok false w) (hc : P.cellsOf e = 1) (d : Nat) (a b : List UInt8) (h1 : a.length = n) (h2 : b.length = n) :
    (Op.equalIn (d + 2) t (.agg (a.map u8V).toArray) (.agg (b.map u8V).toArray)).run P w = .ok (a == b) w := by
  rw [run_equalIn_array w (d + 1) _ _ hu hi, hc, List.range_eq_range', eqItems_u8 he ha d a b (by omega) n 0 (by omega)]
  rfl
end
attribute [go_sem] RetR_c1 RetR_c2 K_cell_agg wholeAt_some oneAll_mk heap_alloc heap_setB
attribute [go_sem high] K_store_whole
attribute [go_sem] K_store_part
end Go.Eng
namespace Go.Proofs.YtinfdomlpbikaaaGreatDoor
open Go.Eng
set_option linter.unusedSimpArgs false
set_option linter.unusedVariables false
set_option maxRecDepth 100000
/-- so many bytes -/
abbrev Arr (n : Nat) := { l : List UInt8 // l.length = n }
structure HeadV where
  charge : Int
  status : Int
  command : Int
  credits : Int
  flags : Int
  next : Int
  id : Int
  async : Int
  tree : Int
  session : Int
  sign : Arr 16
def HeadV.row (h : HeadV) : List Value :=
  [.int .u16 h.charge, .int .u32 h.status, .int .u16 h.command, .int .u16 h.credits, .int .u32 h.flags, .int .u32 h.next, .int .u64 h.id, .int .u64 h.async, .int .u32 h.tree, .int .u64 h.session] ++ h.sign.1.map u8V
def HeadV.cells (h : HeadV) : Array Value := h.row.toArray
theorem HeadV.size (h : HeadV) : h.cells.size = 26 := by simp [HeadV.cells, HeadV.row, h.sign.2]
section
variable (h : HeadV)
@[go_sem] theorem hd0 : h.cells[0]? = some (.int .u16 h.charge) := by simp [HeadV.cells, HeadV.row]
@[go_sem] theorem hg0 (hp : 0 < h.cells.size) : h.cells[0] = .int .u16 h.charge := by simp [HeadV.cells, HeadV.row]
@[go_sem] theorem hd1 : h.cells[1]? = some (.int .u32 h.status) := by simp [HeadV.cells, HeadV.row]
@[go_sem] theorem hg1 (hp : 1 < h.cells.size) : h.cells[1] = .int .u32 h.status := by simp [HeadV.cells, HeadV.row]
@[go_sem] theorem hd2 : h.cells[2]? = some (.int .u16 h.command) := by simp [HeadV.cells, HeadV.row]
@[go_sem] theorem hg2 (hp : 2 < h.cells.size) : h.cells[2] = .int .u16 h.command := by simp [HeadV.cells, HeadV.row]
@[go_sem] theorem hd3 : h.cells[3]? = some (.int .u16 h.credits) := by simp [HeadV.cells, HeadV.row]
@[go_sem] theorem hg3 (hp : 3 < h.cells.size) : h.cells[3] = .int .u16 h.credits := by simp [HeadV.cells, HeadV.row]
@[go_sem] theorem hd4 : h.cells[4]? = some (.int .u32 h.flags) := by simp [HeadV.cells, HeadV.row]
@[go_sem] theorem hg4 (hp : 4 < h.cells.size) : h.cells[4] = .int .u32 h.flags := by simp [HeadV.cells, HeadV.row]
@[go_sem] theorem hd5 : h.cells[5]? = some (.int .u32 h.next) := by simp [HeadV.cells, HeadV.row]
@[go_sem] theorem hg5 (hp : 5 < h.cells.size) : h.cells[5] = .int .u32 h.next := by simp [HeadV.cells, HeadV.row]
@[go_sem] theorem hd6 : h.cells[6]? = some (.int .u64 h.id) := by simp [HeadV.cells, HeadV.row]
@[go_sem] theorem hg6 (hp : 6 < h.cells.size) : h.cells[6] = .int .u64 h.id := by simp [HeadV.cells, HeadV.row]
@[go_sem] theorem hd7 : h.cells[7]? = some (.int .u64 h.async) := by simp [HeadV.cells, HeadV.row]
@[go_sem] theorem hg7 (hp : 7 < h.cells.size) : h.cells[7] = .int .u64 h.async := by simp [HeadV.cells, HeadV.row]
@[go_sem] theorem hd8 : h.cells[8]? = some (.int .u32 h.tree) := by simp [HeadV.cells, HeadV.row]
@[go_sem] theorem hg8 (hp : 8 < h.cells.size) : h.cells[8] = .int .u32 h.tree := by simp [HeadV.cells, HeadV.row]
@[go_sem] theorem hd9 : h.cells[9]? = some (.int .u64 h.session) := by simp [HeadV.cells, HeadV.row]
@[go_sem] theorem hg9 (hp : 9 < h.cells.size) : h.cells[9] = .int .u64 h.session := by simp [HeadV.cells, HeadV.row]
@[go_sem] theorem hs0 (z : Int) : h.cells.setIfInBounds 0 (.int .u16 z) = { h with charge := z }.cells := by simp [HeadV.cells, HeadV.row]
@[go_sem] theorem hs1 (z : Int) : h.cells.setIfInBounds 1 (.int .u32 z) = { h with status := z }.cells := by simp [HeadV.cells, HeadV.row]
@[go_sem] theorem hs2 (z : Int) : h.cells.setIfInBounds 2 (.int .u16 z) = { h with command := z }.cells := by simp [HeadV.cells, HeadV.row]
@[go_sem] theorem hs3 (z : Int) : h.cells.setIfInBounds 3 (.int .u16 z) = { h with credits := z }.cells := by simp [HeadV.cells, HeadV.row]
@[go_sem] theorem hs4 (z : Int) : h.cells.setIfInBounds 4 (.int .u32 z) = { h with flags := z }.cells := by simp [HeadV.cells, HeadV.row]
@[go_sem] theorem hs5 (z : Int) : h.cells.setIfInBounds 5 (.int .u32 z) = { h with next := z }.cells := by simp [HeadV.cells, HeadV.row]
@[go_sem] theorem hs6 (z : Int) : h.cells.setIfInBounds 6 (.int .u64 z) = { h with id := z }.cells := by simp [HeadV.cells, HeadV.row]
@[go_sem] theorem hs7 (z : Int) : h.cells.setIfInBounds 7 (.int .u64 z) = { h with async := z }.cells := by simp [HeadV.cells, HeadV.row]
@[go_sem] theorem hs8 (z : Int) : h.cells.setIfInBounds 8 (.int .u32 z) = { h with tree := z }.cells := by simp [HeadV.cells, HeadV.row]
@[go_sem] theorem hs9 (z : Int) : h.cells.setIfInBounds 9 (.int .u64 z) = { h with session := z }.cells := by simp [HeadV.cells, HeadV.row]
end
@[go_sem] theorem head_size (h : HeadV) : h.cells.size = 26 := h.size
@[go_sem] theorem head_one (h : HeadV) : oneAll h.cells = true := by
  show (h.cells.toList.all fun v => v.oneCell') = true
  simp only [HeadV.cells, HeadV.row, List.all_append, List.all_map]
  simp [Value.oneCell', u8V, Function.comp_def]
@[go_sem] theorem head_ne (h : HeadV) : (h.cells = #[]) = False := by
  refine eq_false (fun e => ?_)
  have := h.size
  rw [e] at this
  cases this
def zeroH : HeadV := ⟨0, 0, 0, 0, 0, 0, 0, 0, 0, 0, ⟨List.replicate 16 0, rfl⟩⟩
@[go_sem] theorem lit_head (a b c d e f g h i j : Int) : (#[.int .u16 a, .int .u32 b, .int .u16 c, .int .u16 d, .int .u32 e, .int .u32 f, .int .u64 g, .int .u64 h, .int .u32 i, .int .u64 j, .int .u8 0, .int .u8 0, .int .u8 0, .int .u8 0, .int .u8 0, .int .u8 0, .int .u8 0, .int .u8 0, .int .u8 0, .int .u8 0, .int .u8 0, .int .u8 0, .int .u8 0, .int .u8 0, .int .u8 0, .int .u8 0] : Array Value) = HeadV.cells ⟨a, b, c, d, e, f, g, h, i, j, zeroH.sign⟩ := (rfl)
@[go_sem high] theorem zero_head : (#[.int .u16 0, .int .u32 0, .int .u16 0, .int .u16 0, .int .u32 0, .int .u32 0, .int .u64 0, .int .u64 0, .int .u32 0, .int .u64 0, .int .u8 0, .int .u8 0, .int .u8 0, .int .u8 0, .int .u8 0, .int .u8 0, .int .u8 0, .int .u8 0, .int .u8 0, .int .u8 0, .int .u8 0, .int .u8 0, .int .u8 0, .int .u8 0, .int .u8 0, .int .u8 0] : Array Value) = zeroH.cells := (rfl)
/-- the block of a head -/
@[go_sem] theorem head_arr (h : HeadV) : h.row.toArray = h.cells := (rfl)
@[go_sem high] theorem head_cut (h : HeadV) (t : TypeId) (f : Nat × Nat) : cutIn (some (.cells h.cells t f)) 0 26 = some h.row := by
  rw [cutIn_some, if_pos (by rw [h.size]; omega)]
  simp [HeadV.cells, List.take_of_length_le, HeadV.row, h.sign.2]
def hasF (f k : Int) : Prop := f / k % 2 = 1
instance (f k : Int) : Decidable (hasF f k) := inferInstanceAs (Decidable (_ = _))
theorem wrap8 {n : Int} (h0 : 0 ≤ n) (h1 : n < 256) : IntKind.u8.wrap n = n := by simp [IntKind.wrap, IntKind.bits, IntKind.signed]; omega
theorem wrap16 {n : Int} (h0 : 0 ≤ n) (h1 : n < 65536) : IntKind.u16.wrap n = n := by simp [IntKind.wrap, IntKind.bits, IntKind.signed]; omega
theorem wrap32 {n : Int} (h0 : 0 ≤ n) (h1 : n < 4294967296) : IntKind.u32.wrap n = n := by simp [IntKind.wrap, IntKind.bits, IntKind.signed]; omega
theorem wrap64 {n : Int} (h0 : 0 ≤ n) (h1 : n < 18446744073709551616) : IntKind.u64.wrap n = n := by simp [IntKind.wrap, IntKind.bits, IntKind.signed]; omega
structure HeadV.ok (h : HeadV) : Prop where
  charge : 0 ≤ h.charge ∧ h.charge < 65536
  status : 0 ≤ h.status ∧ h.status < 4294967296
  command : 0 ≤ h.command ∧ h.command < 65536
  credits : 0 ≤ h.credits ∧ h.credits < 65536
  flags : 0 ≤ h.flags ∧ h.flags < 4294967296
  next : 0 ≤ h.next ∧ h.next < 4294967296
  id : 0 ≤ h.id ∧ h.id < 18446744073709551616
  async : 0 ≤ h.async ∧ h.async < 18446744073709551616
  tree : 0 ≤ h.tree ∧ h.tree < 4294967296
  session : 0 ≤ h.session ∧ h.session < 18446744073709551616
variable {w : World}
def knownL (c : Int) : Bool := decide (c ≤ 18) && decide (c ≠ 11) && decide (c ≠ 15)
theorem headKnown_any (c : Int) (w : World) : CallP Tryz.prog 82 #[.int .u16 c] w (fun r w' => r = .bool (knownL c) ∧ w' = w) := by
  refine call_den (args := [_]) Tryz.func82 rfl rfl (by simp [Tryz.ntmps82]) ?_
  by_cases h1 : c = 11
  · simp [go_sem, h1, knownL]
  · by_cases h2 : c = 15
    · simp [go_sem, h1, h2, knownL]
    · simp [go_sem, h1, h2, knownL]
end Go.Proofs.YtinfdomlpbikaaaGreatDoor
