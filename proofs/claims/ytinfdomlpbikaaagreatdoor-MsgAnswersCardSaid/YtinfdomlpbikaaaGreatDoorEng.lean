/-
  The engine of this seat's proofs: a denotation of the program's code over a plain environment (slot ↦ value), and its soundness: whatever holds of the denotation holds of the run.
-/
import Derived.WalkKit
import Derived.Deep.Quiet
import Derived.StillTail
namespace Go.Eng
set_option linter.unusedSimpArgs false
open Go

abbrev Env := Nat → Value
def putE (ρ : Env) : Option Tmp → Value → Env
  | none, _ => ρ
  | some d, v => fun j => if j = d then v else ρ j
def evE (ρ : Env) : Operand → Value
  | .tmp t => ρ t
  | .const v => v
  | .global g => .pointer (some ⟨g, 0, none⟩)
  | .func f => .func (.func f) #[] #[]
def envOf (a : Act) : Env := fun j => a.tmps.getD j undef
def yieldE (ops : Array Oper) (ρ : Env) (j : Nat) : Option Bool :=
  match (ops[j]?).bind (·.dst) with
  | some d => (match ρ d with | .bool b => some b | _ => none)
  | none => none

theorem evE_envOf (a : Act) : evE (envOf a) = a.eval := by
  funext x; cases x <;> rfl
theorem yieldE_envOf (ops : Array Oper) (a : Act) : yieldE ops (envOf a) = yielded ops a.tmps := by
  funext j
  unfold yieldE yielded envOf
  cases h : (ops[j]?).bind (·.dst) with
  | none => simp
  | some d =>
    simp only [Option.bind_some]
    cases h2 : a.tmps[d]? with
    | none =>
      have : ¬ d < a.tmps.size := by exact Nat.not_lt.2 (Array.getElem?_eq_none_iff.1 h2)
      simp only [Array.getD, dif_neg this, undef]
    | some v =>
      have : a.tmps.getD d undef = v := by
        obtain ⟨hd, hv⟩ := Array.getElem?_eq_some_iff.1 h2
        simp [Array.getD, hd, hv]
      rw [this]
      cases v <;> rfl
theorem envOf_put (a : Act) (d : Option Tmp) (v : Value) (h : ∀ i, d = some i → i < a.tmps.size) :
    envOf (a.put d v) = putE (envOf a) d v := by
  cases d with
  | none => rfl
  | some d =>
    have hd := h d rfl
    funext j
    simp only [envOf, Act.put, putE]
    by_cases hj : j = d
    · subst hj; simp [Array.getD, hd]
    · simp only [if_neg hj, Array.getD]
      simp only [Array.size_setIfInBounds]
      split
      · rename_i hlt
        exact Array.getElem_setIfInBounds_ne hlt (Ne.symm hj)
      · rfl
theorem put_size (a : Act) (d : Option Tmp) (v : Value) : (a.put d v).tmps.size = a.tmps.size := by
  cases d <;> simp [Act.put]
theorem put_defers (a : Act) (d : Option Tmp) (v : Value) : (a.put d v).defers = a.defers := by
  cases d <;> rfl

/-- what follows an operation -/
def NextK (P : Program) (k : Value → World → Prop) : Result Next → Prop
  | .ok (.value v) w' => k v w'
  | .ok .skip w' => k undef w'
  | .ok (.enter f args) w' => Calls P f args w' fun e w'' => ∃ v, e = .returned v ∧ k v w''
  | .ok (.row r args) w' => Rows P r args w' k
  | _ => False
def RunK (P : Program) (s : Sem Next) (w : World) (k : Value → World → Prop) : Prop := NextK P k (s.run P w)

def opsE (P : Program) (ops : Array Oper) (K : Env → World → Prop) : List Oper → Env → World → Prop
  | [], ρ, w => K ρ w
  | o :: r, ρ, w =>
    if Region.wanted o (yieldE ops ρ) then RunK P (execOp (evE ρ) o) w (fun v w' => opsE P ops K r (putE ρ o.dst v) w')
    else opsE P ops K r (putE ρ o.dst undef) w

def thenE (next : Env → World → Prop) (K : Exit → Env → World → Prop) : Exit → Env → World → Prop
  | .normal => next
  | .exit id => K (.exit id)
  | .goto l => K (.goto l)
  | .ret => K .ret
  | .panic c => K (.panic c)
  | .outgrown => K .outgrown
def blockE (id : Nat) (K : Exit → Env → World → Prop) : Exit → Env → World → Prop
  | .normal => K .normal
  | .exit j => if j = id then K .normal else K (.exit j)
  | .goto l => K (.goto l)
  | .ret => K .ret
  | .panic c => K (.panic c)
  | .outgrown => K .outgrown
def CondE (c : Value) (t e : Prop) : Prop :=
  match c with
  | .bool b => if b then t else e
  | _ => False
/-- a loop: an invariant with a number that goes down -/
def LoopE (F : (Env → World → Prop) → Env → World → Prop) (ρ : Env) (w : World) : Prop :=
  ∃ (I : Nat → Env → World → Prop) (m : Nat), I m ρ w ∧ ∀ m ρ w, I m ρ w → F (fun ρ' w' => ∃ m', m' < m ∧ I m' ρ' w') ρ w
/-- the post of a code's run, over the environment -/
def liftK (n : Nat) (K : Exit → Env → World → Prop) : Exit → Act → World → Prop :=
  fun e a w => a.tmps.size = n ∧ a.defers = [] ∧ K e (envOf a) w
/-- code that the engine has no rule for: the run itself -/
def RawE (P : Program) (n : Nat) (c : Code) (K : Exit → Env → World → Prop) (ρ : Env) (w : World) : Prop :=
  ∀ a : Act, a.tmps.size = n → a.defers = [] → envOf a = ρ → c.wp P (liftK n K) a w
/-- a region that draws its order -/
def DrawE (P : Program) (n : Nat) (id : Nat) (ops : Array Oper) (K : Env → World → Prop) (ρ : Env) (w : World) : Prop :=
  RawE P n (.region id ops true) (thenE K fun _ _ _ => False) ρ w

def den (P : Program) (n : Nat) : Code → (Exit → Env → World → Prop) → Env → World → Prop
  | .skip, K, ρ, w => K .normal ρ w
  | .region _ ops false, K, ρ, w => opsE P ops (K .normal) ops.toList ρ w
  | .region id ops true, K, ρ, w => DrawE P n id ops (K .normal) ρ w
  | .seq a b, K, ρ, w => den P n a (thenE (den P n b K) K) ρ w
  | .cond c a b, K, ρ, w => CondE (evE ρ c) (den P n a K ρ w) (den P n b K ρ w)
  | .block id c, K, ρ, w => den P n c (blockE id K) ρ w
  | .loop c, K, ρ, w => LoopE (fun R => den P n c (thenE R K)) ρ w
  | .exit id, K, ρ, w => K (.exit id) ρ w
  | .ret, K, ρ, w => K .ret ρ w
  | .goto l, K, ρ, w => K (.goto l) ρ w
  | .label _, K, ρ, w => K .normal ρ w
  | c, K, ρ, w => RawE P n c K ρ w

def opsLt (n : Nat) (ops : Array Oper) : Bool := ops.toList.all fun o => match o.dst with | some d => decide (d < n) | none => true
def codeLt (n : Nat) : Code → Bool
  | .region _ ops false => opsLt n ops
  | .seq a b => codeLt n a && codeLt n b
  | .cond _ a b => codeLt n a && codeLt n b
  | .block _ c => codeLt n c
  | .loop c => codeLt n c
  | _ => true

theorem opsE_mono {P : Program} {ops : Array Oper} {K K' : Env → World → Prop} (h : ∀ ρ w, K ρ w → K' ρ w) :
    ∀ (l : List Oper) (ρ : Env) (w : World), opsE P ops K l ρ w → opsE P ops K' l ρ w := by
  intro l
  induction l with
  | nil => intro ρ w hh; exact h _ _ hh
  | cons o r ih =>
    intro ρ w hh
    simp only [opsE] at hh ⊢
    split at hh
    · rename_i hw
      rw [if_pos hw]
      unfold RunK at hh ⊢
      generalize (execOp (evE ρ) o).run P w = res at hh ⊢
      cases res with
      | halt x w' => exact hh
      | ok nx w' =>
        cases nx <;> simp only [NextK] at hh ⊢
        case value v => exact ih _ _ hh
        case skip => exact ih _ _ hh
        case enter f args => exact hh.mono fun e w'' ⟨v, he, hk⟩ => ⟨v, he, ih _ _ hk⟩
        case row r args => exact hh.mono fun v w'' hk => ih _ _ hk
    · rename_i hw
      rw [if_neg hw]
      exact ih _ _ hh

theorem wpList_of_opsE {P : Program} {n : Nat} {ops : Array Oper} {K : Env → World → Prop} {Q : Exit → Act → World → Prop}
    (hQ : ∀ a w, a.tmps.size = n → a.defers = [] → K (envOf a) w → Q .normal a w) :
    ∀ (l : List Oper) (a : Act) (w : World), (∀ o ∈ l, ∀ d, o.dst = some d → d < n) → a.tmps.size = n → a.defers = [] →
      opsE P ops K l (envOf a) w → wpList P ops Q l a w := by
  intro l
  induction l with
  | nil => intro a w _ hs hd h; exact hQ a w hs hd h
  | cons o r ih =>
    intro a w hl hs hd h
    have hdst : ∀ i, o.dst = some i → i < a.tmps.size := fun i hi => by rw [hs]; exact hl o (by simp) i hi
    have hr : ∀ o' ∈ r, ∀ d, o'.dst = some d → d < n := fun o' ho' => hl o' (by simp [ho'])
    have next : ∀ v w', opsE P ops K r (putE (envOf a) o.dst v) w' → wpList P ops Q r (a.put o.dst v) w' := by
      intro v w' hh
      refine ih _ _ hr (by rw [put_size]; exact hs) (by rw [put_defers]; exact hd) ?_
      rw [envOf_put a o.dst v hdst]; exact hh
    simp only [opsE] at h
    refine wpList_step fun K' hK' => ?_
    rw [← yieldE_envOf]
    split at h
    · rename_i hw
      rw [if_pos hw]
      unfold RunK at h
      unfold Oper.wp
      rw [evE_envOf] at h
      generalize (execOp a.eval o).run P w = res at h ⊢
      cases res with
      | halt x w' => exact h.elim
      | ok nx w' =>
        cases nx <;> simp only [NextK] at h <;> simp only [Oper.upon]
        case value v => exact hK' _ _ (next v w' h)
        case skip => exact hK' _ _ (next undef w' h)
        case enter f args =>
          refine h.mono fun e w'' ⟨v, he, hk⟩ => ?_
          subst he
          exact hK' _ _ (next v w'' hk)
        case row rr args => exact h.mono fun v w'' hk => hK' _ _ (next v w'' hk)
    · rename_i hw
      rw [if_neg hw]
      exact hK' _ _ (next undef w h)

theorem opsLt_spec {n : Nat} {ops : Array Oper} (h : opsLt n ops = true) : ∀ o ∈ ops.toList, ∀ d, o.dst = some d → d < n := by
  intro o ho d hd
  have := List.all_eq_true.1 h o ho
  rw [hd] at this
  simpa using this

theorem thenE_mono {a b : Env → World → Prop} {K K' : Exit → Env → World → Prop} (h1 : ∀ ρ w, a ρ w → b ρ w) (h2 : ∀ e ρ w, K e ρ w → K' e ρ w) :
    ∀ e ρ w, thenE a K e ρ w → thenE b K' e ρ w := by
  intro e ρ w h
  cases e
  · exact h1 _ _ h
  all_goals exact h2 _ _ _ h
theorem blockE_mono {id : Nat} {K K' : Exit → Env → World → Prop} (h2 : ∀ e ρ w, K e ρ w → K' e ρ w) :
    ∀ e ρ w, blockE id K e ρ w → blockE id K' e ρ w := by
  intro e ρ w h
  cases e with
  | exit j =>
    simp only [blockE] at h ⊢
    split
    · rename_i hj; rw [if_pos hj] at h; exact h2 _ _ _ h
    · rename_i hj; rw [if_neg hj] at h; exact h2 _ _ _ h
  | _ => exact h2 _ _ _ h
theorem liftK_mono {n : Nat} {K K' : Exit → Env → World → Prop} (h : ∀ e ρ w, K e ρ w → K' e ρ w) : ∀ e a w, liftK n K e a w → liftK n K' e a w :=
  fun _ _ _ ⟨h1, h2, h3⟩ => ⟨h1, h2, h _ _ _ h3⟩
theorem RawE_mono {P : Program} {n : Nat} {c : Code} {K K' : Exit → Env → World → Prop} (h : ∀ e ρ w, K e ρ w → K' e ρ w) {ρ : Env} {w : World}
    (hh : RawE P n c K ρ w) : RawE P n c K' ρ w :=
  fun a h1 h2 h3 => wp_mono (hh a h1 h2 h3) (liftK_mono h)

/-- the way to cut: what the code comes to, then on from there -/
theorem den_mono {P : Program} {n : Nat} : ∀ (c : Code) {K K' : Exit → Env → World → Prop}, (∀ e ρ w, K e ρ w → K' e ρ w) → ∀ ρ w, den P n c K ρ w → den P n c K' ρ w
  | .skip, _, _, h, ρ, w, hh => h _ _ _ hh
  | .region _ ops false, _, _, h, ρ, w, hh => opsE_mono (fun ρ w => h .normal ρ w) _ _ _ hh
  | .region id ops true, _, _, h, ρ, w, hh => RawE_mono (thenE_mono (fun ρ w => h .normal ρ w) (fun _ _ _ h => h)) hh
  | .seq a b, _, _, h, ρ, w, hh => den_mono a (thenE_mono (fun ρ w => den_mono b h ρ w) h) ρ w hh
  | .cond c a b, _, _, h, ρ, w, hh => by
    simp only [den] at hh ⊢
    unfold CondE at hh ⊢
    split at hh
    · split at hh
      · rename_i hb; rw [if_pos hb]; exact den_mono a h ρ w hh
      · rename_i hb; rw [if_neg hb]; exact den_mono b h ρ w hh
    · exact hh
  | .block id c, _, _, h, ρ, w, hh => den_mono c (blockE_mono h) ρ w hh
  | .loop c, _, _, h, ρ, w, hh => by
    obtain ⟨I, m, h0, hr⟩ := hh
    exact ⟨I, m, h0, fun m ρ w hI => den_mono c (thenE_mono (fun _ _ h => h) h) ρ w (hr m ρ w hI)⟩
  | .exit id, _, _, h, ρ, w, hh => h _ _ _ hh
  | .ret, _, _, h, ρ, w, hh => h _ _ _ hh
  | .goto l, _, _, h, ρ, w, hh => h _ _ _ hh
  | .label l, _, _, h, ρ, w, hh => h _ _ _ hh
  | .scope c, _, _, h, ρ, w, hh => RawE_mono h hh
  | .rangeFunc f ps a c, _, _, h, ρ, w, hh => RawE_mono h hh
  | .refuse s, _, _, h, ρ, w, hh => RawE_mono h hh

theorem least (p : Nat → Prop) : ∀ n, p n → ∃ m, p m ∧ ∀ k, k < m → ¬ p k := by
  intro n
  induction n using Nat.strongRecOn with
  | _ n ih =>
    intro hn
    by_cases h : ∃ k, k < n ∧ p k
    · obtain ⟨k, hk, hp⟩ := h
      exact ih k hk hp
    · exact ⟨n, hn, fun k hk hp => h ⟨k, hk, hp⟩⟩

theorem den_sound {P : Program} {n : Nat} : ∀ (c : Code) (K : Exit → Env → World → Prop) (a : Act) (w : World), codeLt n c = true → a.tmps.size = n → a.defers = [] →
    den P n c K (envOf a) w → c.wp P (liftK n K) a w
  | .skip, K, a, w, hc, hs, hd, h => wp_skip ⟨hs, hd, h⟩
  | .region id ops false, K, a, w, hc, hs, hd, h => by
    refine wp_region_list (wpList_of_opsE (n := n) (K := K .normal) (fun a w h1 h2 h3 => ⟨h1, h2, h3⟩) _ a w (opsLt_spec hc) hs hd h)
  | .region id ops true, K, a, w, hc, hs, hd, h =>
    wp_mono (h a hs hd rfl) fun e a w ⟨h1, h2, h3⟩ => ⟨h1, h2, by cases e <;> first | exact h3 | exact h3.elim⟩
  | .seq x y, K, a, w, hc, hs, hd, h => by
    simp only [codeLt, Bool.and_eq_true] at hc
    refine wp_seq (wp_mono (den_sound x _ a w hc.1 hs hd h) ?_)
    rintro e a w ⟨h1, h2, h3⟩
    cases e with
    | normal => exact den_sound y K a w hc.2 h1 h2 h3
    | _ => exact ⟨h1, h2, h3⟩
  | .cond c x y, K, a, w, hc, hs, hd, h => by
    simp only [codeLt, Bool.and_eq_true] at hc
    simp only [den, CondE, evE_envOf] at h
    split at h
    · rename_i b hb
      refine wp_cond hb ?_
      cases b with
      | true => exact den_sound x K a w hc.1 hs hd (by simpa using h)
      | false => exact den_sound y K a w hc.2 hs hd (by simpa using h)
    · exact h.elim
  | .block id c, K, a, w, hc, hs, hd, h => by
    refine wp_block (wp_mono (den_sound c _ a w hc hs hd h) ?_)
    rintro e a w ⟨h1, h2, h3⟩
    cases e with
    | exit j =>
      simp only [blockE, Exit.inBlock] at h3 ⊢
      split
      · rename_i hj; rw [if_pos hj] at h3; exact ⟨h1, h2, h3⟩
      · rename_i hj; rw [if_neg hj] at h3; exact ⟨h1, h2, h3⟩
    | _ => exact ⟨h1, h2, h3⟩
  | .loop c, K, a, w, hc, hs, hd, h => by
    obtain ⟨I, m, h0, hr⟩ := h
    have hmin : ∀ a w, (∃ m, I m (envOf a) w) → ∃ m, I m (envOf a) w ∧ ∀ k, k < m → ¬ I k (envOf a) w := fun a w ⟨m, hm⟩ => least _ m hm
    let μ : Act → World → Nat := fun a w => open Classical in if h : ∃ m, I m (envOf a) w then Classical.choose (hmin a w h) else 0
    have hμ : ∀ a w, (∃ m, I m (envOf a) w) → I (μ a w) (envOf a) w ∧ ∀ k, I k (envOf a) w → μ a w ≤ k := by
      intro a w he
      have hs := Classical.choose_spec (hmin a w he)
      have e : μ a w = Classical.choose (hmin a w he) := by simp only [μ]; rw [dif_pos he]
      rw [e]
      refine ⟨hs.1, fun k hk => ?_⟩
      rcases Nat.lt_or_ge k (Classical.choose (hmin a w he)) with hlt | hge
      · exact (hs.2 k hlt hk).elim
      · exact hge
    refine wp_loop (fun a w => a.tmps.size = n ∧ a.defers = [] ∧ ∃ m, I m (envOf a) w) μ ⟨hs, hd, m, h0⟩ ?_
    rintro a w ⟨hs, hd, hI⟩
    have h1 := hr (μ a w) (envOf a) w (hμ a w hI).1
    refine wp_mono (den_sound c _ a w hc hs hd h1) ?_
    rintro e a' w' ⟨h1, h2, h3⟩
    cases e with
    | normal =>
      obtain ⟨m', hlt, hI'⟩ := h3
      exact ⟨⟨h1, h2, m', hI'⟩, Nat.lt_of_le_of_lt ((hμ a' w' ⟨m', hI'⟩).2 m' hI') hlt⟩
    | _ => exact ⟨h1, h2, h3⟩
  | .exit id, K, a, w, hc, hs, hd, h => wp_exit ⟨hs, hd, h⟩
  | .ret, K, a, w, hc, hs, hd, h => wp_ret ⟨hs, hd, h⟩
  | .goto l, K, a, w, hc, hs, hd, h => wp_goto ⟨hs, hd, h⟩
  | .label l, K, a, w, hc, hs, hd, h => wp_label ⟨hs, hd, h⟩
  | .scope c, K, a, w, hc, hs, hd, h => h a hs hd rfl
  | .rangeFunc f ps x c, K, a, w, hc, hs, hd, h => h a hs hd rfl
  | .refuse s, K, a, w, hc, hs, hd, h => h a hs hd rfl

/-- the results, off the environment -/
def resE (fn : Func) (ρ : Env) : Sem Value := do
  let vs ← fn.results.mapM fun
    | .tmp t => pure (ρ t)
    | .cell a t => do loadVar t (← asAddr (ρ a))
  pure (if h : vs.size = 1 then vs[0] else .tuple vs)
def retK (P : Program) (fn : Func) (k : Value → World → Prop) : Exit → Env → World → Prop
  | .normal, ρ, w | .ret, ρ, w => ∃ v, (resE fn ρ).run P w = .ok v w ∧ k v w
  | _, _, _ => False
/-- a call that returns -/
def CallP (P : Program) (f : FuncId) (args : Array Value) (w : World) (k : Value → World → Prop) : Prop :=
  Calls P f args w fun e w' => ∃ v, e = .returned v ∧ k v w'
theorem CallP.mono {P : Program} {f : FuncId} {args : Array Value} {w : World} {k k' : Value → World → Prop} (h : CallP P f args w k) (hk : ∀ v w', k v w' → k' v w') : CallP P f args w k' :=
  Calls.mono h fun _ _ ⟨v, he, hv⟩ => ⟨v, he, hk _ _ hv⟩
def argE (args : List Value) : Env := fun j => (args[j]?).getD undef

theorem call_den {P : Program} {f : FuncId} {fn : Func} {c : Code} {args : List Value} {w : World} {k : Value → World → Prop}
    (hf : P.funcs[f]? = some fn) (hb : fn.body = some c) (hc : codeLt fn.ntmps c = true) (hn : args.length ≤ fn.ntmps)
    (h : den P fn.ntmps c (retK P fn k) (argE args) w) : CallP P f args.toArray w k := by
  refine calls_of_wp hf hb ?_
  have hs : (args.toArray ++ Array.replicate (fn.ntmps - args.toArray.size) undef).size = fn.ntmps := by simp; omega
  have henv : envOf { tmps := args.toArray ++ Array.replicate (fn.ntmps - args.toArray.size) undef, defers := [] } = argE args := by
    funext j
    simp only [envOf, argE, Array.getD_eq_getD_getElem?]
    rcases Nat.lt_or_ge j args.length with hj | hj
    · rw [Array.getElem?_append_left (by simpa using hj)]; simp
    · rw [Array.getElem?_append_right (by simpa using hj)]
      simp only [List.size_toArray, Array.getElem?_replicate, List.getElem?_eq_none hj]
      split <;> rfl
  refine wp_mono (den_sound c (retK P fn k) _ w hc hs rfl (by rw [henv]; exact h)) ?_
  rintro e a w ⟨h1, h2, h3⟩
  have hres : ∀ a : Act, resE fn (envOf a) = results fn a.tmps := fun a => rfl
  cases e with
  | normal => obtain ⟨v, hv, hk⟩ := h3; exact ⟨h2, v, hv, v, rfl, hk⟩
  | ret => obtain ⟨v, hv, hk⟩ := h3; exact ⟨h2, v, hv, v, rfl, hk⟩
  | _ => exact h3.elim
end Go.Eng
