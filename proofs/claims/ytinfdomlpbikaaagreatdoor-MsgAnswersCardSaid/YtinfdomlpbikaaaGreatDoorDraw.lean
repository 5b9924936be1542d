/-
  Regions that draw their order: one walk of the text's order serves them all, where each operation leaves the world alone.
-/
import Derived.Test.YtinfdomlpbikaaaGreatDoorSli
import Derived.OrdersHeld
namespace Go.Eng
set_option linter.unusedSimpArgs false
open Go
section
variable {ι : Type} {P : Program} {W : ι → World}
/-- operation 'op' yields v in world W i, and leaves a world of the family -/
def RunQ (P : Program) (W : ι → World) (op : Op) (t : TypeId) (e : Operand → Value) (i : ι) (v : Value) : Prop :=
  Oper.quietUpon P (fun w => ∃ j, w = W j) (W i) v ((execOp e ⟨none, op, t, "", #[], none⟩).run P (W i))
def QuietO (P : Program) (W : ι → World) (op : Op) (t : TypeId) (e : Operand → Value) (k : Value → Prop) : Prop :=
  ∃ v, (∀ i, RunQ P W op t e i v) ∧ k v
def opsQ (P : Program) (W : ι → World) (Q : Env → Prop) : List SOp → Env → Prop
  | [], ρ => Q ρ
  | ⟨d, op, t, none⟩ :: r, ρ => QuietO P W op t (evE ρ) (fun v => opsQ P W Q r (putE ρ d v))
  | ⟨d, op, t, some (g, want)⟩ :: r, ρ => GuardO g ρ want (QuietO P W op t (evE ρ) (fun v => opsQ P W Q r (putE ρ d v))) (opsQ P W Q r (putE ρ d undef))
def contQ (P : Program) (W : ι → World) (Q : Env → Prop) (r : List SOp) (ρ : Env) (d : Option Tmp) : Value → Prop := fun v => opsQ P W Q r (putE ρ d v)
variable {Q : Env → Prop} {ρ : Env}
theorem contQ_app (r : List SOp) (d : Option Tmp) (v : Value) : contQ P W Q r ρ d v = opsQ P W Q r (putE ρ d v) := (rfl)
theorem opsQ_nil : opsQ P W Q [] ρ = Q ρ := (rfl)
theorem opsQ_plain (d : Option Tmp) (op : Op) (t : TypeId) (r : List SOp) : opsQ P W Q (⟨d, op, t, none⟩ :: r) ρ = QuietO P W op t (evE ρ) (contQ P W Q r ρ d) := (rfl)
theorem guardQ_t (d : Option Tmp) (op : Op) (t : TypeId) (r : List SOp) (g : Tmp) (want : Bool) (h : ρ g = .bool want) :
    opsQ P W Q (⟨d, op, t, some (some g, want)⟩ :: r) ρ = QuietO P W op t (evE ρ) (contQ P W Q r ρ d) := by
  simp only [opsQ, GuardO, GuardE, h]; simp; rfl
theorem guardQ_f (d : Option Tmp) (op : Op) (t : TypeId) (r : List SOp) (g : Tmp) (want : Bool) (h : ρ g = .bool !want) :
    opsQ P W Q (⟨d, op, t, some (some g, want)⟩ :: r) ρ = opsQ P W Q r (putE ρ d undef) := by
  simp only [opsQ, GuardO, GuardE, h]; cases want <;> simp
theorem guardQ_u (d : Option Tmp) (op : Op) (t : TypeId) (r : List SOp) (g : Tmp) (want : Bool) (h : ρ g = undef) :
    opsQ P W Q (⟨d, op, t, some (some g, want)⟩ :: r) ρ = opsQ P W Q r (putE ρ d undef) := by
  simp only [opsQ, GuardO, GuardE, h, undef]
theorem guardQ_split {d : Option Tmp} {op : Op} {t : TypeId} {r : List SOp} {g : Tmp} {want : Bool} (b : Bool) (_ : ρ g = .bool b)
    (h1 : b = want → opsQ P W Q (⟨d, op, t, some (some g, want)⟩ :: r) ρ) (h2 : b = !want → opsQ P W Q (⟨d, op, t, some (some g, want)⟩ :: r) ρ) :
    opsQ P W Q (⟨d, op, t, some (some g, want)⟩ :: r) ρ := by
  cases b <;> cases want <;> first | exact h1 rfl | exact h2 rfl
section
variable [Nonempty ι] (e : Operand → Value) (ty : TypeId) (k : Value → Prop)
theorem QuietO_v {op : Op} {s : Sem Value} (hs : execOp e ⟨none, op, ty, "", #[], none⟩ = (do pure (.value (← s)))) (v : Value) (h : ∀ i, s.run P (W i) = .ok v (W i)) : QuietO P W op ty e k = k v := by
  unfold QuietO RunQ
  have : ∀ i v', Oper.quietUpon P (fun w => ∃ j, w = W j) (W i) v' ((execOp e ⟨none, op, ty, "", #[], none⟩).run P (W i)) = (v = v') := by
    intro i v'
    rw [hs]
    simp only [Sem.run_bind, h, Result.andThen_ok, Sem.run_pure, Oper.quietUpon, true_and]
  simp only [this, forall_const, exists_eq_left']
theorem Q_move (x : Operand) : QuietO P W (.move x) ty e k = k (e x) := by
  unfold QuietO RunQ
  simp only [execOp, Sem.run_pure, Oper.quietUpon, true_and, forall_const, exists_eq_left']
theorem Q_assign (x : Operand) : QuietO P W (.assign x) ty e k = k (e x) := by
  unfold QuietO RunQ
  simp only [execOp, Sem.run_pure, Oper.quietUpon, true_and, forall_const, exists_eq_left']
theorem Q_makeFunc (f : Fn) (x y : Array Operand) : QuietO P W (.makeFunc f x y) ty e k = k (.func f (x.map e) (y.map e)) :=
  QuietO_v e ty k (s := pure (.func f (x.map e) (y.map e))) rfl _ (fun _ => rfl)
theorem Q_nilCheck (x : Operand) (q : Addr) (h : e x = .pointer (some q)) : QuietO P W (.nilCheck x) ty e k = k (.pointer (some q)) := by
  unfold QuietO RunQ
  simp only [execOp, h, Sem.run_pure, Oper.quietUpon, true_and, forall_const, exists_eq_left']
theorem Q_pick (c x y : Operand) (b : Bool) (h : e c = .bool b) : QuietO P W (.pick c x y) ty e k = k (if b then e x else e y) := by
  unfold QuietO RunQ
  have : ∀ w, (asBool (.bool b)).run P w = .ok b w := fun _ => rfl
  simp only [execOp, h, Sem.run_bind, this, Result.andThen_ok, Sem.run_pure, Oper.quietUpon, true_and, forall_const, exists_eq_left']
theorem Q_pick_t (c x y : Operand) (h : e c = .bool true) : QuietO P W (.pick c x y) ty e k = k (e x) := by rw [Q_pick e ty k c x y true h]; rfl
theorem Q_pick_f (c x y : Operand) (h : e c = .bool false) : QuietO P W (.pick c x y) ty e k = k (e y) := by rw [Q_pick e ty k c x y false h]; rfl
theorem Q_build (t : TypeId) (ps : Array (Nat × Operand)) (v : Value) (h : ∀ q, ((Instr.build t (ps.map fun (i, x) => (i, e x)))).run P (W q) = .ok v (W q)) : QuietO P W (.build t ps) ty e k = k v :=
  QuietO_v e ty k rfl v h
theorem Q_load (t : TypeId) (x : Operand) (v : Value) (h : ∀ q, ((Instr.loadAt t (e x))).run P (W q) = .ok v (W q)) : QuietO P W (.load t x) ty e k = k v :=
  QuietO_v e ty k rfl v h
theorem Q_load_fix {t : TypeId} {q : Addr} {v : Value} (h : ∀ i, (Instr.loadAt t (.pointer (some q))).run P (W i) = .ok v (W i)) (e : Operand → Value) (ty : TypeId) (k : Value → Prop) (x : Operand) (he : e x = .pointer (some q)) : QuietO P W (.load t x) ty e k = k v :=
  Q_load e ty k t x v (fun i => by rw [he]; exact h i)
theorem Q_binOp (op : BinOp) (t : TypeId) (x y : Operand) (u : TypeId) (v : Value) (h : ∀ q, ((do eqGuard op t x y (e x) (e y); binOp op t (e x) (e y))).run P (W q) = .ok v (W q)) : QuietO P W (.binOp op t x y u) ty e k = k v :=
  QuietO_v e ty k rfl v h
theorem Q_unOp (op : UnOp) (t : TypeId) (x : Operand) (v : Value) (h : ∀ q, ((Op.unary op (e x))).run P (W q) = .ok v (W q)) : QuietO P W (.unOp op t x) ty e k = k v :=
  QuietO_v e ty k rfl v h
theorem Q_convert (s t : TypeId) (x : Operand) (v : Value) (h : ∀ q, ((convert s t (e x))).run P (W q) = .ok v (W q)) : QuietO P W (.convert s t x) ty e k = k v :=
  QuietO_v e ty k rfl v h
theorem Q_makeInterface (t : TypeId) (x : Operand) (v : Value) (h : ∀ q, ((Instr.makeInterface t (e x))).run P (W q) = .ok v (W q)) : QuietO P W (.makeInterface t x) ty e k = k v :=
  QuietO_v e ty k rfl v h
theorem Q_slice (t : TypeId) (x : Operand) (lo hi mx : Option Operand) (v : Value) (h : ∀ q, ((Instr.sliceAt t (e x) (lo.map e) (hi.map e) (mx.map e))).run P (W q) = .ok v (W q)) : QuietO P W (.slice t x lo hi mx) ty e k = k v :=
  QuietO_v e ty k rfl v h
theorem Q_fieldAddr (t : TypeId) (x : Operand) (f : Nat) (v : Value) (h : ∀ q, ((Instr.fieldAt t (e x) f)).run P (W q) = .ok v (W q)) : QuietO P W (.fieldAddr t x f) ty e k = k v :=
  QuietO_v e ty k rfl v h
theorem Q_field (t : TypeId) (x : Operand) (f : Nat) (v : Value) (h : ∀ q, ((Instr.field t (e x) f)).run P (W q) = .ok v (W q)) : QuietO P W (.field t x f) ty e k = k v :=
  QuietO_v e ty k rfl v h
theorem Q_indexAddr (t : TypeId) (x y : Operand) (v : Value) (h : ∀ q, ((Instr.indexAt t (e x) (e y))).run P (W q) = .ok v (W q)) : QuietO P W (.indexAddr t x y) ty e k = k v :=
  QuietO_v e ty k rfl v h
theorem Q_index (t : TypeId) (x y : Operand) (v : Value) (h : ∀ q, ((Instr.index t (e x) (e y))).run P (W q) = .ok v (W q)) : QuietO P W (.index t x y) ty e k = k v :=
  QuietO_v e ty k rfl v h
theorem Q_lookup (t : TypeId) (x y : Operand) (ok : Bool) (v : Value) (h : ∀ q, ((Instr.lookup t (e x) (e y) ok)).run P (W q) = .ok v (W q)) : QuietO P W (.lookup t x y ok) ty e k = k v :=
  QuietO_v e ty k rfl v h
theorem Q_entry (x : Operand) (v : Value) (h : ∀ q, ((Instr.entry (e x))).run P (W q) = .ok v (W q)) : QuietO P W (.entry x) ty e k = k v :=
  QuietO_v e ty k rfl v h
theorem Q_extract (x : Operand) (i : Nat) (v : Value) (h : ∀ q, ((Instr.extract (e x) i)).run P (W q) = .ok v (W q)) : QuietO P W (.extract x i) ty e k = k v :=
  QuietO_v e ty k rfl v h
theorem Q_cap (ts : Array TypeId) (args : Array Operand) (v : Value) (h : ∀ q, ((Builtin.cap_ ts ty (args.map e))).run P (W q) = .ok v (W q)) : QuietO P W (.call ⟨.builtin .cap, args, ts⟩) ty e k = k v := by
  refine QuietO_v e ty k (s := (Builtin.cap_ ts ty (args.map e))) ?_ v h
  simp only [execOp, resolve, pure_bind, invoke, builtin]
theorem Q_len (ts : Array TypeId) (args : Array Operand) (v : Value) (h : ∀ q, ((Builtin.len_ ts ty (args.map e))).run P (W q) = .ok v (W q)) : QuietO P W (.call ⟨.builtin .len, args, ts⟩) ty e k = k v := by
  refine QuietO_v e ty k (s := (Builtin.len_ ts ty (args.map e))) ?_ v h
  simp only [execOp, resolve, pure_bind, invoke, builtin]
theorem Q_max (ts : Array TypeId) (args : Array Operand) (v : Value) (h : ∀ q, ((Builtin.max_ ts ty (args.map e))).run P (W q) = .ok v (W q)) : QuietO P W (.call ⟨.builtin .max, args, ts⟩) ty e k = k v := by
  refine QuietO_v e ty k (s := (Builtin.max_ ts ty (args.map e))) ?_ v h
  simp only [execOp, resolve, pure_bind, invoke, builtin]
theorem Q_min (ts : Array TypeId) (args : Array Operand) (v : Value) (h : ∀ q, ((Builtin.min_ ts ty (args.map e))).run P (W q) = .ok v (W q)) : QuietO P W (.call ⟨.builtin .min, args, ts⟩) ty e k = k v := by
  refine QuietO_v e ty k (s := (Builtin.min_ ts ty (args.map e))) ?_ v h
  simp only [execOp, resolve, pure_bind, invoke, builtin]

omit [Nonempty ι] in
/-- a call that is quiet: it hands back v, and leaves a world of the family -/
theorem Q_call {f : FuncId} {first cap : Array Value} {g : Operand} {args : Array Operand} {ts : Array TypeId} (hg : e g = .func (.func f) first cap)
    (hf : ∀ args w, (callFunc f args).run P w = .ok (.enter f args) w) (v : Value) (h : ∀ i, CallP P f (first ++ args.map e ++ cap) (W i) fun u w' => u = v ∧ ∃ j, w' = W j) (hk : k v) :
    QuietO P W (.call ⟨.value g, args, ts⟩) ty e k := by
  refine ⟨v, fun i => ?_, hk⟩
  unfold RunQ
  simp only [execOp, resolve, Sem.run_bind, Sem.run_pure, Result.andThen_ok, hg, Deferred.ofValue, invoke, hf, Oper.quietUpon, true_and]
  refine Calls.mono (h i) ?_
  rintro r w' ⟨u, rfl, rfl, hw⟩
  exact ⟨rfl, hw⟩
end
/-- what is quiet over the environment is quiet over the frame -/
theorem wpQuiet_of_opsQ {n : Nat} {all : List Oper} {C : World → Prop} (hC : ∀ w, C w ↔ ∃ i, w = W i) {R : Act → Prop}
    (hR : ∀ a, a.tmps.size = n → a.defers = [] → Q (envOf a) → R a) :
    ∀ (l : List Oper) (a : Act), (∀ o ∈ l, ∀ d, o.dst = some d → d < n) → a.tmps.size = n → a.defers = [] →
      opsQ P W Q (strip all l) (envOf a) → wpQuiet P all.toArray C R l a := by
  have hCe : C = fun w => ∃ j, w = W j := funext fun w => propext (hC w)
  intro l
  induction l with
  | nil => intro a _ hs hd h; exact hR a hs hd h
  | cons o r ih =>
    intro a hl hs hd h
    have hdst : ∀ i, o.dst = some i → i < a.tmps.size := fun i hi => by rw [hs]; exact hl o (by simp) i hi
    have hr : ∀ o' ∈ r, ∀ d, o'.dst = some d → d < n := fun o' ho' => hl o' (by simp [ho'])
    have next : ∀ v, opsQ P W Q (strip all r) (putE (envOf a) o.dst v) → wpQuiet P all.toArray C R r (a.put o.dst v) := by
      intro v hh
      refine ih _ hr (by rw [put_size]; exact hs) (by rw [put_defers]; exact hd) ?_
      rw [envOf_put a o.dst v hdst]; exact hh
    obtain ⟨d, op, t, p, af, g⟩ := o
    have hx : ∀ e, execOp e ⟨d, op, t, p, af, g⟩ = execOp e ⟨none, op, t, "", #[], none⟩ := fun e => rfl
    have quiet : QuietO P W op t (evE (envOf a)) (fun v => opsQ P W Q (strip all r) (putE (envOf a) d v)) → Oper.quiet P ⟨d, op, t, p, af, g⟩ a C (wpQuiet P all.toArray C R r) := by
      rintro ⟨v, h1, h2⟩
      refine ⟨v, fun w hw => ?_, next v h2⟩
      obtain ⟨i, rfl⟩ := (hC w).1 hw
      unfold Oper.quietAt
      rw [hx, ← evE_envOf, hCe]
      exact h1 i
    unfold wpQuiet
    cases g with
    | none =>
      simp only [Region.wanted, if_true]
      exact quiet h
    | some g =>
      obtain ⟨j, want⟩ := g
      simp only [strip, opsQ] at h
      simp only [Region.wanted, ← yieldE_envOf, yieldE, dstOf_eq]
      cases hd' : dstOf j all with
      | none =>
        rw [hd'] at h
        exact next undef h
      | some dj =>
        rw [hd'] at h
        simp only [GuardO] at h
        have key := guard_key (envOf a dj) want (Oper.quiet P ⟨d, op, t, p, af, some (j, want)⟩ a C (wpQuiet P all.toArray C R r)) (wpQuiet P all.toArray C R r (a.put d undef))
        refine key.symm ▸ ?_
        simp only [GuardE] at h ⊢
        cases hv : envOf a dj with
        | bool b =>
          rw [hv] at h
          simp only at h ⊢
          cases hb : b == want with
          | true => rw [hb] at h; exact quiet h
          | false => rw [hb] at h; exact next undef h
        | _ =>
          rw [hv] at h
          exact next undef h
/-- a region that draws its order, each of whose operations is quiet in a family of worlds -/
theorem draw_quiet {n id : Nat} {l : List Oper} {K : Env → World → Prop} {w : World} (W : ι → World) (hm : P.follows .mixedOrders = true) (hB : Region.lexB .any l.toArray = true) (hn : opsLt n l.toArray = true) (hW : ∃ i, W i = w.drew)
    (h : opsQ P W (fun ρ' => ∀ i, K ρ' (W i)) (strip l l) ρ) : DrawE P n id l.toArray K ρ w := by
  intro a hs hd he
  subst he
  refine wp_region_quiet (C := fun w => ∃ i, w = W i) hm hB (by obtain ⟨i, hi⟩ := hW; exact ⟨i, hi.symm⟩) ?_
  refine wpQuiet_of_opsQ (n := n) (fun _ => Iff.rfl) ?_ l a (opsLt_spec hn) hs hd h
  intro a' h1 h2 h3 w' ⟨i, hi⟩
  subst hi
  exact ⟨h1, h2, h3 i⟩
/-- .. that only read and draw -/
theorem draw_reads {n id : Nat} {l : List Oper} {K : Env → World → Prop} {w : World} (hm : P.follows .mixedOrders = true) (hB : Region.lexB .any l.toArray = true) (hn : opsLt n l.toArray = true)
    (h : opsQ P (fun i => w.drewN i) (fun ρ' => ∀ i, K ρ' (w.drewN i)) (strip l l) ρ) : DrawE P n id l.toArray K ρ w :=
  draw_quiet (fun i => w.drewN i) hm hB hn ⟨1, rfl⟩ h
theorem wpStill_of_opsQ {w : World} {n : Nat} {all : List Oper} {R : Act → Prop}
    (hR : ∀ a, a.tmps.size = n → a.defers = [] → Q (envOf a) → R a) :
    ∀ (l : List Oper) (a : Act), (∀ o ∈ l, ∀ d, o.dst = some d → d < n) → a.tmps.size = n → a.defers = [] →
      opsQ P (fun _ : Unit => w) Q (strip all l) (envOf a) → wpStill P all.toArray w R l a := by
  intro l
  induction l with
  | nil => intro a _ hs hd h; exact hR a hs hd h
  | cons o r ih =>
    intro a hl hs hd h
    have hdst : ∀ i, o.dst = some i → i < a.tmps.size := fun i hi => by rw [hs]; exact hl o (by simp) i hi
    have hr : ∀ o' ∈ r, ∀ d, o'.dst = some d → d < n := fun o' ho' => hl o' (by simp [ho'])
    have next : ∀ v, opsQ P (fun _ : Unit => w) Q (strip all r) (putE (envOf a) o.dst v) → wpStill P all.toArray w R r (a.put o.dst v) := by
      intro v hh
      refine ih _ hr (by rw [put_size]; exact hs) (by rw [put_defers]; exact hd) ?_
      rw [envOf_put a o.dst v hdst]; exact hh
    obtain ⟨d, op, t, p, af, g⟩ := o
    have hx : ∀ e, execOp e ⟨d, op, t, p, af, g⟩ = execOp e ⟨none, op, t, "", #[], none⟩ := fun e => rfl
    have quiet : QuietO P (fun _ : Unit => w) op t (evE (envOf a)) (fun v => opsQ P (fun _ : Unit => w) Q (strip all r) (putE (envOf a) d v)) → Oper.still P ⟨d, op, t, p, af, g⟩ a w (wpStill P all.toArray w R r) := by
      rintro ⟨v, h1, h2⟩
      have h3 := h1 ()
      unfold RunQ at h3
      unfold Oper.still
      rw [hx, ← evE_envOf]
      generalize (execOp (evE (envOf a)) ⟨none, op, t, "", #[], none⟩).run P w = res at h3 ⊢
      cases res with
      | halt x w' => exact h3.elim
      | ok nx w' =>
        cases nx <;> simp only [Oper.quietUpon] at h3 <;> simp only [Oper.stillUpon]
        case value u =>
          obtain ⟨e1, e2⟩ := h3
          subst e2
          exact ⟨e1, next _ h2⟩
        case skip =>
          obtain ⟨e1, e2⟩ := h3
          subst e2
          exact ⟨e1, next _ h2⟩
        case enter f args =>
          obtain ⟨e1, hc⟩ := h3
          exact ⟨e1, v, hc.mono (fun e w'' ⟨he, j, hw⟩ => ⟨he, hw⟩), next v h2⟩
    unfold wpStill
    cases g with
    | none =>
      simp only [Region.wanted, if_true]
      exact quiet h
    | some g =>
      obtain ⟨j, want⟩ := g
      simp only [strip, opsQ] at h
      simp only [Region.wanted, ← yieldE_envOf, yieldE, dstOf_eq]
      cases hd' : dstOf j all with
      | none =>
        rw [hd'] at h
        exact next undef h
      | some dj =>
        rw [hd'] at h
        simp only [GuardO] at h
        have key := guard_key (envOf a dj) want (Oper.still P ⟨d, op, t, p, af, some (j, want)⟩ a w (wpStill P all.toArray w R r)) (wpStill P all.toArray w R r (a.put d undef))
        refine key.symm ▸ ?_
        simp only [GuardE] at h ⊢
        cases hv : envOf a dj with
        | bool b =>
          rw [hv] at h
          simp only at h ⊢
          cases hb : b == want with
          | true => rw [hb] at h; exact quiet h
          | false => rw [hb] at h; exact next undef h
        | _ =>
          rw [hv] at h
          exact next undef h
/-- a region that draws its order: m operations that leave the world alone, then the rest, which waits for them -/
theorem draw_tail {n id : Nat} {l : List Oper} {K : Env → World → Prop} {w : World} (m : Nat) (hm : P.follows .mixedOrders = true) (hB : Region.lexTailB .any l.toArray m = true) (hn : opsLt n l.toArray = true)
    (h : opsQ P (fun _ : Unit => w.drew) (fun ρ' => opsS P K (strip l (l.drop m)) ρ' w.drew) (strip l (l.take m)) ρ) : DrawE P n id l.toArray K ρ w := by
  intro a hs hd he
  subst he
  have hlt := opsLt_spec hn
  refine wp_region_still_tail m hm hB ?_
  refine wpStill_of_opsQ (n := n) ?_ (l.take m) a (fun o ho => hlt o (List.mem_of_mem_take ho)) hs hd h
  intro a' h1 h2 h3
  rw [← opsE_strip] at h3
  exact wpList_of_opsE (n := n) (K := K) (fun a w g1 g2 g3 => ⟨g1, g2, g3⟩) _ a' _ (fun o ho => hlt o (List.mem_of_mem_drop ho)) h1 h2 h3
/-! ### scripts: pure operations may be taken first; a group that leaves the world alone, in one order; what comes up alone -/
/-- the operations that wait for i, through others -/
def downs (md : Region.Mode) (ops : Array Oper) (i : Nat) : List Nat :=
  (List.range ops.size).foldl (fun acc t => if acc.any fun j => Region.waitsFor md ops t j then t :: acc else acc) [i]
theorem downs_spec {md : Region.Mode} {ops : Array Oper} {i : Nat} {listed : Array Bool} (inv : HeadInv md ops ops.size listed) {t : Nat} (ht : t ∈ downs md ops i)
    (h : t ∈ Region.ready md ops listed) (hne : t ≠ i) : listed.getD i false = true := by
  have key : ∀ (l : List Nat) (acc : List Nat), (∀ t ∈ acc, listed.getD t false = true → listed.getD i false = true) → (∀ t ∈ acc, t ∈ Region.ready md ops listed → t ≠ i → listed.getD i false = true) →
      (∀ t ∈ l.foldl (fun acc t => if acc.any fun j => Region.waitsFor md ops t j then t :: acc else acc) acc, listed.getD t false = true → listed.getD i false = true) ∧
      (∀ t ∈ l.foldl (fun acc t => if acc.any fun j => Region.waitsFor md ops t j then t :: acc else acc) acc, t ∈ Region.ready md ops listed → t ≠ i → listed.getD i false = true) := by
    intro l
    induction l with
    | nil => intro acc h1 h2; exact ⟨h1, h2⟩
    | cons x l ih =>
      intro acc h1 h2
      simp only [List.foldl_cons]
      by_cases hx : (acc.any fun j => Region.waitsFor md ops x j) = true
      · rw [if_pos hx]
        obtain ⟨j, hj, hw⟩ := List.any_eq_true.1 hx
        obtain ⟨ox, hox, e, he, hb, hon⟩ := Region.waitsFor_spec hw
        refine ih _ ?_ ?_
        · intro t ht hl
          rcases List.mem_cons.1 ht with rfl | ht
          · exact h1 j hj (by rw [← hon]; exact inv.closed _ ox hox hl e he hb)
          · exact h1 t ht hl
        · intro t ht hr hne
          rcases List.mem_cons.1 ht with rfl | ht
          · obtain ⟨_, o', ho', hall⟩ := mem_ready.1 hr
            have : o' = ox := Option.some.inj (ho'.symm.trans hox)
            subst this
            exact h1 j hj (by rw [← hon]; exact hall e he hb)
          · exact h2 t ht hr hne
      · rw [if_neg hx]
        exact ih _ h1 h2
  refine (key (List.range ops.size) [i] ?_ ?_).2 t ht h hne
  · intro t ht hl; simp at ht; subst ht; exact hl
  · intro t ht _ hne; simp at ht; exact absurd ht hne
theorem hinv_zero (md : Region.Mode) (ops : Array Oper) : HeadInv md ops ops.size (Array.replicate ops.size false) :=
  ⟨by simp, fun j oj _ hl => (by rw [getD_replicate_false] at hl; cases hl), fun t h1 h2 => by omega⟩
theorem hinv_step {md : Region.Mode} {ops : Array Oper} {i : Nat} {listed : Array Bool} (inv : HeadInv md ops ops.size listed) (hi : i ∈ Region.ready md ops listed) : HeadInv md ops ops.size (listed.setIfInBounds i true) :=
  inv.set hi (by obtain ⟨_, o, ho, _⟩ := mem_ready.1 hi; exact (Array.getElem?_eq_some_iff.1 ho).1)
/-- whatever is not listed and not in the group waits for each one of the group -/
def waitsAll (md : Region.Mode) (ops : Array Oper) (is : List Nat) (listed : Array Bool) : Bool :=
  is.all fun i => (List.range ops.size).all fun t => listed.getD t true || is.contains t || (downs md ops i).contains t
def WaitsAll (md : Region.Mode) (ops : Array Oper) (is : List Nat) (listed : Array Bool) : Prop :=
  ∀ i ∈ is, ∀ t, listed.getD t true = false → t ∉ is → t ∈ downs md ops i
theorem waitsAll_spec {md : Region.Mode} {ops : Array Oper} {is : List Nat} {listed : Array Bool} (inv : HeadInv md ops ops.size listed) (h : waitsAll md ops is listed = true) : WaitsAll md ops is listed := by
  intro i hi t ht hn
  have hlt : t < ops.size := by
    rw [← inv.size]
    rcases Nat.lt_or_ge t listed.size with h' | h'
    · exact h'
    · simp [Array.getElem?_eq_none h'] at ht
  have := List.all_eq_true.1 (List.all_eq_true.1 h i hi) t (List.mem_range.2 hlt)
  simp only [Bool.or_eq_true, ht, Bool.false_eq_true, false_or, List.contains_iff_mem] at this
  exact this.resolve_left hn
theorem WaitsAll.step {md : Region.Mode} {ops : Array Oper} {is : List Nat} {listed : Array Bool} (h : WaitsAll md ops is listed) (j : Nat) : WaitsAll md ops is (listed.setIfInBounds j true) := by
  intro i hi t ht hn
  refine h i hi t ?_ hn
  by_cases hjt : j = t
  · subst hjt
    rcases Nat.lt_or_ge j listed.size with h' | h'
    · simp [h'] at ht
    · simp [Array.getElem?_eq_none h'] at ht
  · rw [getD_set_ne true hjt] at ht; exact ht
theorem WaitsAll.ready {md : Region.Mode} {ops : Array Oper} {is : List Nat} {listed : Array Bool} (h : WaitsAll md ops is listed) (inv : HeadInv md ops ops.size listed) {i : Nat} (hi : i ∈ is) (hun : listed.getD i true = false)
    {t : Nat} (ht : t ∈ Region.ready md ops listed) : t ∈ is := by
  apply Classical.byContradiction
  intro hn
  have h1 := downs_spec inv (h i hi t (mem_ready.1 ht).1 hn) ht (fun e => hn (e ▸ hi))
  rw [getD_both hun] at h1
  cases h1
theorem group_first {w : World} {md : Region.Mode} {ops : Array Oper} {is : List Nat} {i : Nat} {oi : Oper} {v : Value} {L : Array Bool → Act → Prop} (hi : ops[i]? = some oi)
    (hsel : ∀ (j : Nat) (o : Oper) cs b, ops[j]? = some o → o.op ≠ .select cs b) (hin : i ∈ is) (hdone : ∀ listed a, L listed a → ∀ j ∈ Region.ready md ops listed, j ∉ is) :
    ∀ (f : Nat) (listed : Array Bool) (a : Act), HeadInv md ops ops.size listed → WaitsAll md ops is listed →
      (∀ j oj, ops[j]? = some oj → j ≠ i → listed.getD j true = false → (∀ e ∈ oj.after, Region.binds md e = true → e.on ≠ i) → oi.apart ops oj = true) →
      i ∈ Region.ready md ops listed → YieldsAt P ops w oi v a →
      wpAnyL P md ops w ops.size L f (listed.setIfInBounds i true) (a.put oi.dst v) → wpAnyL P md ops w ops.size L (f + 1) listed a := by
  intro f
  induction f with
  | zero =>
    intro listed a inv hw _ hr hy H
    refine ⟨fun h => (by rw [h] at hr; cases hr), fun j hj => ⟨by obtain ⟨_, o, ho, _⟩ := mem_ready.1 hj; exact (Array.getElem?_eq_some_iff.1 ho).1, ?_⟩⟩
    by_cases hji : j = i
    · subst hji; exact hy.stOp hi H
    · exact absurd (hw.ready inv hin (mem_ready.1 hr).1 hj) (hdone _ _ H j (ready_mono hj hji))
  | succ f ih =>
    intro listed a inv hw hfree hr hy H
    have hun := (mem_ready.1 hr).1
    refine ⟨fun h => (by rw [h] at hr; cases hr), fun j hj => ⟨by obtain ⟨_, o, ho, _⟩ := mem_ready.1 hj; exact (Array.getElem?_eq_some_iff.1 ho).1, ?_⟩⟩
    by_cases hji : j = i
    · subst hji; exact hy.stOp hi H
    · obtain ⟨hjun, oj, hoj, hall⟩ := mem_ready.1 hj
      have hnot : ∀ e ∈ oj.after, Region.binds md e = true → e.on ≠ i := fun e he hb heq => by
        have h1 := hall e he hb
        rw [heq, getD_both hun] at h1
        cases h1
      refine stOp_mono (fun a' h3 => ih (listed.setIfInBounds j true) a' (hinv_step inv hj) (hw.step j) (fun k ok hk hki hkun hno => ?_) (ready_mono hr (Ne.symm hji)) h3.1 ?_)
        (stOp_put hoj (hfree j oj hoj hji hjun hnot) (fun cs b => hsel i oi cs b hi) (fun cs b => hsel j oj cs b hoj) hy (H.2 j (ready_mono hj hji)).2)
      · refine hfree k ok hk hki ?_ hno
        by_cases hjk : j = k
        · subst hjk; exact hjun
        · rw [getD_set_ne true hjk] at hkun; exact hkun
      · rw [Array.setIfInBounds_comm _ _ hji]
        exact h3.2
/-- the group's own order; it yields what is listed behind it -/
def groupLex (md : Region.Mode) (ops : Array Oper) : List Nat → Array Bool → Option (Array Bool)
  | [], listed => some listed
  | k :: r, listed => if (Region.ready md ops listed).contains k && Region.free md ops listed k then groupLex md ops r (listed.setIfInBounds k true) else none
theorem groupLex_inv {md : Region.Mode} {ops : Array Oper} : ∀ (l : List Nat) (listed l' : Array Bool), groupLex md ops l listed = some l' → HeadInv md ops ops.size listed → HeadInv md ops ops.size l'
  | [], listed, l', h, inv => by simp only [groupLex, Option.some.injEq] at h; exact h ▸ inv
  | k :: r, listed, l', h, inv => by
    unfold groupLex at h
    split at h
    · rename_i hc
      simp only [Bool.and_eq_true] at hc
      exact groupLex_inv r _ _ h (hinv_step inv (by simpa using hc.1))
    · cases h
theorem group_lex {w : World} {md : Region.Mode} {ops : Array Oper} {is : List Nat} {Lq : Act → Prop} {l' : Array Bool} (hsel : Region.noSelect ops = true) (hend : (is.all fun i => !(Region.ready md ops l').contains i) = true) :
    ∀ (r : List Nat) (listed : Array Bool) (a : Act), (∀ i ∈ r, i ∈ is) → groupLex md ops r listed = some l' → HeadInv md ops ops.size listed → WaitsAll md ops is listed →
      wpStill P ops w Lq (r.filterMap fun i => ops[i]?) a → wpAnyL P md ops w ops.size (fun l'' a' => l'' = l' ∧ Lq a') r.length listed a
  | [], listed, a, _, h, _, _, hw => by
    simp only [groupLex, Option.some.injEq] at h
    exact ⟨h, hw⟩
  | k :: r, listed, a, hr, h, inv, hwt, hw => by
    unfold groupLex at h
    split at h
    · rename_i hc
      simp only [Bool.and_eq_true] at hc
      have hk : k ∈ Region.ready md ops listed := by simpa using hc.1
      obtain ⟨_, ok, hok, _⟩ := mem_ready.1 hk
      simp only [List.filterMap_cons, hok] at hw
      have hst : stOp P ops w k (wpStill P ops w Lq (r.filterMap fun i => ops[i]?)) a := by unfold stOp; simp only [hok]; exact hw
      obtain ⟨v, hy, hK⟩ := yieldsAt_of_stOp hok hst
      refine group_first (is := is) hok (Region.noSelect_spec hsel) (hr k (by simp)) ?_ r.length listed a inv hwt (Region.free_spec hok hc.2) hk hy
        (group_lex hsel hend r _ _ (fun i hi => hr i (by simp [hi])) h (hinv_step inv hk) (hwt.step k) hK)
      rintro l'' a' ⟨rfl, _⟩ j hj hin
      have := List.all_eq_true.1 hend j hin
      simp only [Bool.not_eq_true', List.contains_eq_mem, decide_eq_false_iff_not] at this
      exact this hj
    · cases h
/-- ends with a value, where it ends -/
def OnlyV (P : Program) (s : Sem Next) : Prop := ∀ w w' n, s.run P w = .ok n w' → ∃ u, n = .value u
theorem OnlyV.pure (v : Value) : OnlyV P (pure (.value v) : Sem Next) := by
  intro w w' n h
  simp only [Sem.run_pure, Result.ok.injEq] at h
  exact ⟨v, h.1.symm⟩
theorem OnlyV.bind {α : Type} {m : Sem α} {f : α → Sem Next} (h : ∀ a, OnlyV P (f a)) : OnlyV P (m >>= f) := by
  intro w w' n hr
  rw [Sem.run_bind] at hr
  generalize m.run P w = r at hr
  cases r with
  | halt x w1 => cases hr
  | ok u w1 => exact h u _ _ _ hr
theorem OnlyV.panic (v : Value) : OnlyV P (goPanic v : Sem Next) := by intro w w' n h; cases h
theorem OnlyV.rtPanic (x : RuntimeError) : OnlyV P (runtimePanic x : Sem Next) := by
  unfold runtimePanic
  refine OnlyV.bind fun p => ?_
  cases x <;> first | exact OnlyV.panic _ | exact OnlyV.bind fun _ => OnlyV.bind fun _ => OnlyV.panic _
def readK : Op → Bool
  | .move _ => true
  | .assign _ => true
  | .nilCheck _ => true
  | .fieldAddr .. => true
  | .indexAddr .. => true
  | .index .. => true
  | .field .. => true
  | .load .. => true
  | .binOp .. => true
  | .unOp .. => true
  | .convert .. => true
  | .extract .. => true
  | .build .. => true
  | .makeFunc .. => true
  | .pick .. => true
  | .slice .. => true
  | _ => false
theorem onlyV_read {op : Op} {t : TypeId} {e : Operand → Value} (hp : readK op = true) : OnlyV P (execOp e ⟨none, op, t, "", #[], none⟩) := by
  cases op <;> simp [readK] at hp
  case nilCheck x =>
    simp only [execOp]
    split
    · exact OnlyV.rtPanic _
    · exact OnlyV.rtPanic _
    · exact OnlyV.rtPanic _
    · split
      · exact OnlyV.rtPanic _
      · refine OnlyV.bind fun p => OnlyV.bind fun q => ?_
        split
        · exact OnlyV.bind fun _ => OnlyV.pure _
        · exact OnlyV.pure _
      · exact OnlyV.pure _
    · exact OnlyV.pure _
  case pick c x y =>
    simp only [execOp]
    exact OnlyV.bind fun b => OnlyV.pure _
  all_goals first
    | exact OnlyV.pure _
    | exact OnlyV.bind fun u => OnlyV.pure _
/-! ### readers, and one that acts: what is read stays (S) -/
theorem RunQ_read {S : World → Prop} {op : Op} {t : TypeId} {e : Operand → Value} {v : Value} (hp : readK op = true) (h : ∀ i : { w : World // S w }, RunQ P (fun i : { w : World // S w } => i.1) op t e i v) :
    ∀ w, S w → (execOp e ⟨none, op, t, "", #[], none⟩).run P w = .ok (.value v) w := by
  intro w hw
  have h1 := h ⟨w, hw⟩
  unfold RunQ at h1
  simp only at h1
  generalize hr : (execOp e ⟨none, op, t, "", #[], none⟩).run P w = r at h1
  cases r with
  | halt x w' => exact h1.elim
  | ok n w' =>
    obtain ⟨u, rfl⟩ := onlyV_read hp w w' n hr
    simp only [Oper.quietUpon] at h1
    obtain ⟨h1, h2⟩ := h1
    first | (subst h1; subst h2; rfl) | (obtain ⟨h3, h4⟩ := h2; subst h1; subst h3; rfl)
def wpAnyHL (P : Program) (md : Region.Mode) (ops : Array Oper) (Q : Exit → Act → World → Prop) (S : World → Prop) (L : Array Bool → Act → World → Prop) : Nat → Array Bool → Act → World → Prop
  | 0, listed, a, w => L listed a w
  | f + 1, listed, a, w => Region.ready md ops listed ≠ [] ∧ ∀ i ∈ Region.ready md ops listed, wpOp P ops Q i (fun a' w' => S w' ∧ wpAnyHL P md ops Q S L f (listed.setIfInBounds i true) a' w') a w
theorem wpAny_of_HL {md : Region.Mode} {ops : Array Oper} {Q : Exit → Act → World → Prop} {S : World → Prop} {L : Array Bool → Act → World → Prop} {g : Nat} (hL : ∀ listed a w, L listed a w → wpAny P md ops Q g listed a w) :
    ∀ (f : Nat) (listed : Array Bool) (a : Act) (w : World), wpAnyHL P md ops Q S L f listed a w → wpAny P md ops Q (f + g) listed a w
  | 0, listed, a, w, h => by rw [Nat.zero_add]; exact hL _ _ _ h
  | f + 1, listed, a, w, h => by
    rw [show f + 1 + g = (f + g) + 1 by omega]
    exact ⟨fun h0 => absurd h0 h.1, fun i hi => wpOp_mono (fun a' w' h' => wpAny_of_HL hL f _ a' w' h'.2) (h.2 i hi)⟩
theorem heldL_first {md : Region.Mode} {ops : Array Oper} {is : List Nat} {i : Nat} {oi : Oper} {v : Value} {Q : Exit → Act → World → Prop} {S : World → Prop} {L : Array Bool → Act → World → Prop} (hi : ops[i]? = some oi)
    (hsel : ∀ (j : Nat) (o : Oper) cs b, ops[j]? = some o → o.op ≠ .select cs b) (hQ : ∀ c a w, ¬ Q (.panic c) a w) (hin : i ∈ is) (hdone : ∀ listed a w, L listed a w → ∀ j ∈ Region.ready md ops listed, j ∉ is) :
    ∀ (f : Nat) (listed : Array Bool) (a : Act) (w : World), HeadInv md ops ops.size listed → WaitsAll md ops is listed →
      (∀ j oj, ops[j]? = some oj → j ≠ i → listed.getD j true = false → (∀ e ∈ oj.after, Region.binds md e = true → e.on ≠ i) → oi.apart ops oj = true) →
      i ∈ Region.ready md ops listed → YieldsIf P ops S oi v a → S w →
      wpAnyHL P md ops Q S L f (listed.setIfInBounds i true) (a.put oi.dst v) w → wpAnyHL P md ops Q S L (f + 1) listed a w := by
  intro f
  induction f with
  | zero =>
    intro listed a w inv hw _ hr hy hS H
    refine ⟨fun h => (by rw [h] at hr; cases hr), fun j hj => ?_⟩
    by_cases hji : j = i
    · subst hji; exact hy.wpOp hi hS ⟨hS, H⟩
    · exact absurd (hw.ready inv hin (mem_ready.1 hr).1 hj) (hdone _ _ _ H j (ready_mono hj hji))
  | succ f ih =>
    intro listed a w inv hw hfree hr hy hS H
    have hun := (mem_ready.1 hr).1
    refine ⟨fun h => (by rw [h] at hr; cases hr), fun j hj => ?_⟩
    by_cases hji : j = i
    · subst hji; exact hy.wpOp hi hS ⟨hS, H⟩
    · obtain ⟨hjun, oj, hoj, hall⟩ := mem_ready.1 hj
      have hnot : ∀ e ∈ oj.after, Region.binds md e = true → e.on ≠ i := fun e he hb heq => by
        have h1 := hall e he hb
        rw [heq, getD_both hun] at h1
        cases h1
      refine wpOp_mono (fun a' w' h3 => ⟨h3.2.1, ih (listed.setIfInBounds j true) a' w' (hinv_step inv hj) (hw.step j) (fun k ok hk hki hkun hno => ?_) (ready_mono hr (Ne.symm hji)) h3.1 h3.2.1 ?_⟩)
        (wpOp_putIf hoj (hfree j oj hoj hji hjun hnot) (fun cs b => hsel i oi cs b hi) (fun cs b => hsel j oj cs b hoj) (fun c a w h => absurd h (hQ c _ _)) hy (H.2 j (ready_mono hj hji)))
      · refine hfree k ok hk hki ?_ hno
        by_cases hjk : j = k
        · subst hjk; exact hjun
        · rw [getD_set_ne true hjk] at hkun; exact hkun
      · rw [Array.setIfInBounds_comm _ _ hji]
        exact h3.2.2
inductive Ph where
  | pure (i : Nat)
  | still (is : List Nat)
  | one (i : Nat)
  | held (is : List Nat) (j : Nat)
def Ph.len : Ph → Nat
  | .pure _ => 1
  | .still is => is.length
  | .one _ => 1
  | .held is _ => is.length + 1
def scriptLen : List Ph → Nat
  | [] => 0
  | p :: r => p.len + scriptLen r
/-- only the normal exit -/
def onlyN (K : Act → World → Prop) : Exit → Act → World → Prop := fun e a w => match e with
  | .normal => K a w
  | _ => False
theorem upon_onlyN {o : Oper} {a : Act} {K K' : Act → World → Prop} {Q' : Exit → Act → World → Prop} {r : Result Next} (h : o.upon P a K (onlyN K') r) : o.upon P a K Q' r := by
  cases r with
  | ok n w' =>
    cases n <;> simp only [Oper.upon] at h ⊢
    case enter f args =>
      refine Calls.mono h fun e w'' he => ?_
      cases e with
      | returned u => exact he
      | panicked c => exact he.elim
      | outgrown => obtain ⟨_, _, h⟩ := he; exact h.elim
    all_goals exact h
  | halt x w' => cases x <;> simp only [Oper.upon] at h ⊢ <;> exact h.elim
theorem wpOp_onlyN {ops : Array Oper} {i : Nat} {oi : Oper} {a : Act} {w : World} {K : Act → World → Prop} {Q' : Exit → Act → World → Prop} (hi : ops[i]? = some oi) (h : wpList P ops (onlyN K) [oi] a w) : wpOp P ops Q' i K a w := by
  unfold wpOp
  simp only [hi]
  simp only [wpList] at h
  by_cases hw : Region.wanted oi (yielded ops a.tmps) = true
  · rw [if_pos hw] at h ⊢
    rcases h with h | ⟨_, _, _, h⟩
    · exact .inl (upon_onlyN h)
    · exact h.elim
  · rw [if_neg hw] at h ⊢
    exact h
theorem value_only (s : Sem Value) (w w' : World) (n : Next) (h : Sem.run P (do pure (.value (← s)) : Sem Next) w = .ok n w') : ∃ u, n = .value u := by
  rw [Sem.run_bind] at h
  generalize s.run P w = r at h
  cases r with
  | halt x w1 => cases h
  | ok u w1 => simp only [Result.andThen_ok, Sem.run_pure, Result.ok.injEq] at h; exact ⟨u, h.1.symm⟩
def pureK : Op → Bool
  | .move _ => true
  | .assign _ => true
  | .fieldAddr .. => true
  | .makeFunc .. => true
  | _ => false
theorem runQ_pure {op : Op} {t : TypeId} {e : Operand → Value} {v : Value} (w : World) (hp : pureK op = true)
    (h : RunQ P (fun w : World => w) op t e w v) : (execOp e ⟨none, op, t, "", #[], none⟩).run P w = .ok (.value v) w := by
  unfold RunQ at h
  generalize hr : (execOp e ⟨none, op, t, "", #[], none⟩).run P w = r at h
  cases r with
  | halt x w' => exact h.elim
  | ok n w' =>
    have hv : ∃ u, n = .value u := by
      cases op <;> simp [pureK] at hp
      case move x => exact value_only (pure (e x)) w w' n (by simpa only [execOp, pure_bind] using hr)
      case assign x => exact value_only (pure (e x)) w w' n (by simpa only [execOp, pure_bind] using hr)
      case fieldAddr t x f => exact value_only _ w w' n hr
      case makeFunc f x y => exact value_only _ w w' n hr
    obtain ⟨u, rfl⟩ := hv
    simp only [Oper.quietUpon] at h
    obtain ⟨h1, h2⟩ := h
    first | (subst h1; subst h2; rfl) | (obtain ⟨h3, h4⟩ := h2; subst h1; subst h3; rfl)
def pureOp (ops : Array Oper) (i : Nat) : Bool :=
  match ops[i]? with
  | some o => pureK o.op
  | none => false
def readOp (ops : Array Oper) (i : Nat) : Bool :=
  match ops[i]? with
  | some o => readK o.op
  | none => false
def chk (md : Region.Mode) (ops : Array Oper) : List Ph → Array Bool → Bool
  | [], listed => (Region.ready md ops listed).isEmpty
  | .pure i :: r, listed => (Region.ready md ops listed).contains i && Region.free md ops listed i && pureOp ops i && chk md ops r (listed.setIfInBounds i true)
  | .one i :: r, listed => decide (Region.ready md ops listed = [i]) && chk md ops r (listed.setIfInBounds i true)
  | .still is :: r, listed => waitsAll md ops is listed && match groupLex md ops is listed with
    | some l' => (is.all fun i => !(Region.ready md ops l').contains i) && chk md ops r l'
    | none => false
  | .held is j :: r, listed => waitsAll md ops (is ++ [j]) listed && is.all (readOp ops) && match groupLex md ops is listed with
    | some l' => decide (Region.ready md ops l' = [j]) && ((is ++ [j]).all fun i => !(Region.ready md ops (l'.setIfInBounds j true)).contains i) && chk md ops r (l'.setIfInBounds j true)
    | none => false
def opsPh (P : Program) (all : List Oper) (K : Env → World → Prop) : List Ph → Env → World → Prop
  | [], ρ, w => K ρ w
  | .pure i :: r, ρ, w => opsQ P (fun w : World => w) (fun ρ' => opsPh P all K r ρ' w) (strip all ((all[i]?).toList)) ρ
  | .one i :: r, ρ, w => opsS P (fun ρ' w' => opsPh P all K r ρ' w') (strip all ((all[i]?).toList)) ρ w
  | .still is :: r, ρ, w => opsQ P (fun _ : Unit => w) (fun ρ' => opsPh P all K r ρ' w) (strip all (is.filterMap fun i => all[i]?)) ρ
  | .held is j :: r, ρ, w => ∃ S : World → Prop, S w ∧ opsQ P (fun i : { w : World // S w } => i.1) (fun ρ' => opsS P (fun ρ'' w'' => S w'' ∧ opsPh P all K r ρ'' w'') (strip all ((all[j]?).toList)) ρ' w) (strip all (is.filterMap fun i => all[i]?)) ρ
theorem opsQ_single {ι : Type} {W : ι → World} {all : List Oper} {o : Oper} {ρ : Env} {Q : Env → Prop} (h : opsQ P W Q (strip all [o]) ρ) :
    (Region.wanted o (yieldE all.toArray ρ) = true ∧ QuietO P W o.op o.type (evE ρ) (fun v => Q (putE ρ o.dst v))) ∨ (Region.wanted o (yieldE all.toArray ρ) = false ∧ Q (putE ρ o.dst undef)) := by
  obtain ⟨d, op, t, p, af, g⟩ := o
  cases g with
  | none => exact .inl ⟨by simp [Region.wanted], h⟩
  | some g =>
    obtain ⟨j, want⟩ := g
    simp only [strip, opsQ] at h
    simp only [Region.wanted, yieldE, dstOf_eq]
    cases hd' : dstOf j all with
    | none => rw [hd'] at h; exact .inr ⟨rfl, h⟩
    | some dj =>
      rw [hd'] at h
      simp only [GuardO, GuardE] at h
      simp only
      cases hv : ρ dj with
      | bool b =>
        rw [hv] at h
        simp only at h ⊢
        cases hb : b == want with
        | true => rw [hb] at h; exact .inl ⟨by simpa using hb, h⟩
        | false => rw [hb] at h; exact .inr ⟨by simpa using hb, h⟩
      | _ => rw [hv] at h; exact .inr ⟨rfl, h⟩
theorem opsQ_append {ι : Type} {W : ι → World} {Q : Env → Prop} : ∀ (l1 l2 : List SOp) (ρ : Env), opsQ P W Q (l1 ++ l2) ρ = opsQ P W (fun ρ' => opsQ P W Q l2 ρ') l1 ρ
  | [], l2, ρ => rfl
  | ⟨d, op, t, none⟩ :: r, l2, ρ => by
    have : (fun v => opsQ P W Q (r ++ l2) (putE ρ d v)) = fun v => opsQ P W (fun ρ' => opsQ P W Q l2 ρ') r (putE ρ d v) := funext fun v => opsQ_append r l2 _
    simp only [List.cons_append, opsQ, this]
  | ⟨d, op, t, some (g, want)⟩ :: r, l2, ρ => by
    have : (fun v => opsQ P W Q (r ++ l2) (putE ρ d v)) = fun v => opsQ P W (fun ρ' => opsQ P W Q l2 ρ') r (putE ρ d v) := funext fun v => opsQ_append r l2 _
    simp only [List.cons_append, opsQ, this, opsQ_append r l2 (putE ρ d undef)]
theorem opsPh_sound {n : Nat} {all : List Oper} {K : Env → World → Prop} {Q' : Exit → Act → World → Prop} (hlt : ∀ o ∈ all, ∀ d, o.dst = some d → d < n) (hsel : Region.noSelect all.toArray = true)
    (hQ : ∀ a w, a.tmps.size = n → a.defers = [] → K (envOf a) w → Q' .normal a w) (hP : ∀ c a w, ¬ Q' (.panic c) a w) :
    ∀ (ps : List Ph) (listed : Array Bool) (a : Act) (w : World), chk .any all.toArray ps listed = true → HeadInv .any all.toArray all.toArray.size listed → a.tmps.size = n → a.defers = [] →
      opsPh P all K ps (envOf a) w → wpAny P .any all.toArray Q' (scriptLen ps) listed a w := by
  intro ps
  induction ps with
  | nil =>
    intro listed a w hc _ hs hd h
    exact ⟨by simpa [chk] using hc, hQ a w hs hd h⟩
  | cons ph r ih =>
    intro listed a w hc inv hs hd h
    have mem : ∀ {i : Nat} {o : Oper}, all[i]? = some o → o ∈ all := fun h => List.mem_of_getElem? h
    cases ph with
    | pure i =>
      simp only [chk, Bool.and_eq_true] at hc
      obtain ⟨⟨⟨hr, hf⟩, hp⟩, hc⟩ := hc
      have hk : i ∈ Region.ready .any all.toArray listed := by simpa using hr
      obtain ⟨_, oi, hoi, _⟩ := mem_ready.1 hk
      have hoi' : all[i]? = some oi := by simpa using hoi
      unfold pureOp at hp
      rw [hoi] at hp
      simp only [opsPh, hoi', Option.toList] at h
      have hdst : ∀ d, oi.dst = some d → d < a.tmps.size := fun d hd' => by rw [hs]; exact hlt oi (mem hoi') d hd'
      have next : ∀ v, opsPh P all K r (putE (envOf a) oi.dst v) w → wpAny P .any all.toArray Q' (scriptLen r) (listed.setIfInBounds i true) (a.put oi.dst v) w := fun v hv =>
        ih _ _ _ hc (hinv_step inv hk) (by rw [put_size]; exact hs) (by rw [put_defers]; exact hd) (by rw [envOf_put a oi.dst v hdst]; exact hv)
      show wpAny P .any all.toArray Q' (1 + scriptLen r) listed a w
      rw [Nat.add_comm 1]
      rcases opsQ_single h with ⟨hw, v, h1, h2⟩ | ⟨hw, h2⟩
      · refine wpAny_take hoi hsel hf hr (fun c a w h => absurd h (hP c _ _)) (.inl ⟨by rw [yieldE_envOf] at hw; exact hw, fun w' => ?_⟩) (next v h2)
        have := runQ_pure w' hp (h1 w')
        rw [evE_envOf] at this
        exact this
      · exact wpAny_take hoi hsel hf hr (fun c a w h => absurd h (hP c _ _)) (.inr ⟨by rw [yieldE_envOf] at hw; exact hw, rfl⟩) (next undef h2)
    | one i =>
      simp only [chk, Bool.and_eq_true, decide_eq_true_eq] at hc
      obtain ⟨hr, hc⟩ := hc
      have hk : i ∈ Region.ready .any all.toArray listed := by rw [hr]; simp
      obtain ⟨_, oi, hoi, _⟩ := mem_ready.1 hk
      have hoi' : all[i]? = some oi := by simpa using hoi
      simp only [opsPh, hoi', Option.toList] at h
      show wpAny P .any all.toArray Q' (1 + scriptLen r) listed a w
      rw [Nat.add_comm 1]
      refine wpAny_all hr (by simp) (fun j hj => ?_)
      have hji : j = i := by simpa using hj
      subst hji
      rw [← opsE_strip] at h
      refine wpOp_onlyN hoi (wpList_of_opsE (n := n) (K := fun ρ' w' => opsPh P all K r ρ' w') ?_ [oi] a w (by intro o ho; simp at ho; subst ho; exact hlt o (mem hoi')) hs hd h)
      intro a' w' h1 h2 h3
      exact ih _ _ _ hc (hinv_step inv hk) h1 h2 h3
    | still is =>
      simp only [chk, Bool.and_eq_true] at hc
      obtain ⟨hwt, hc⟩ := hc
      cases hg : groupLex .any all.toArray is listed with
      | none => rw [hg] at hc; cases hc
      | some l' =>
        rw [hg] at hc
        simp only [Bool.and_eq_true] at hc
        obtain ⟨hend, hc⟩ := hc
        have hwt' := waitsAll_spec inv hwt
        simp only [opsPh] at h
        have H := group_lex (P := P) (w := w) (md := .any) (Lq := fun a' => a'.tmps.size = n ∧ a'.defers = [] ∧ opsPh P all K r (envOf a') w) hsel hend is listed a (fun i hi => hi) hg inv hwt' (by
          simp only [List.getElem?_toArray]
          refine wpStill_of_opsQ (n := n) (fun a' h1 h2 h3 => ⟨h1, h2, h3⟩) _ a ?_ hs hd h
          intro o ho d hd'
          obtain ⟨i, _, hi⟩ := List.mem_filterMap.1 ho
          exact hlt o (mem hi) d hd')
        refine wpAny_of_head (g := scriptLen r) (fun l'' a' hL => ?_) is.length listed a H
        obtain ⟨rfl, h1, h2, h3⟩ := hL
        exact ih _ _ _ hc (groupLex_inv _ _ _ hg inv) h1 h2 h3
    | held is j =>
      simp only [chk, Bool.and_eq_true] at hc
      obtain ⟨⟨hwt, hrd⟩, hc⟩ := hc
      cases hg : groupLex .any all.toArray is listed with
      | none => rw [hg] at hc; cases hc
      | some l' =>
        rw [hg] at hc
        simp only [Bool.and_eq_true, decide_eq_true_eq] at hc
        obtain ⟨⟨hrj, hend⟩, hc⟩ := hc
        have hwt' := waitsAll_spec inv hwt
        simp only [opsPh] at h
        obtain ⟨S, hS, h⟩ := h
        have inv' := groupLex_inv _ _ _ hg inv
        have hkj : j ∈ Region.ready .any all.toArray l' := by rw [hrj]; simp
        obtain ⟨_, oj, hoj, _⟩ := mem_ready.1 hkj
        have hoj' : all[j]? = some oj := by simpa using hoj
        rw [hoj'] at h
        simp only [Option.toList] at h
        let L : Array Bool → Act → World → Prop := fun l'' a' w' => l'' = l'.setIfInBounds j true ∧ a'.tmps.size = n ∧ a'.defers = [] ∧ opsPh P all K r (envOf a') w'
        have hdone : ∀ l'' a' w', L l'' a' w' → ∀ i ∈ Region.ready .any all.toArray l'', i ∉ is ++ [j] := by
          rintro l'' a' w' ⟨rfl, _⟩ i hi hin
          have := List.all_eq_true.1 hend i hin
          simp only [Bool.not_eq_true', List.contains_eq_mem, decide_eq_false_iff_not] at this
          exact this hi
        have key : ∀ (r1 : List Nat) (l1 : Array Bool) (a1 : Act), (∀ i ∈ r1, i ∈ is) → groupLex .any all.toArray r1 l1 = some l' → HeadInv .any all.toArray all.toArray.size l1 → WaitsAll .any all.toArray (is ++ [j]) l1 → a1.tmps.size = n → a1.defers = [] →
            opsQ P (fun i : { w : World // S w } => i.1) (fun ρ' => opsS P (fun ρ'' w'' => S w'' ∧ opsPh P all K r ρ'' w'') (strip all [oj]) ρ' w) (strip all (r1.filterMap fun i => all[i]?)) (envOf a1) →
            wpAnyHL P .any all.toArray Q' S L (r1.length + 1) l1 a1 w := by
          intro r1
          induction r1 with
          | nil =>
            intro l1 a1 _ hl _ _ hs1 hd1 h1
            simp only [groupLex, Option.some.injEq] at hl
            subst hl
            refine ⟨by rw [hrj]; simp, fun i hi => ?_⟩
            rw [hrj] at hi
            have hij : i = j := by simpa using hi
            subst hij
            change opsS P (fun ρ'' w'' => S w'' ∧ opsPh P all K r ρ'' w'') (strip all [oj]) (envOf a1) w at h1
            rw [← opsE_strip] at h1
            refine wpOp_onlyN hoj (wpList_of_opsE (n := n) (K := fun ρ'' w'' => S w'' ∧ opsPh P all K r ρ'' w'') ?_ [oj] a1 w (by intro o ho; simp at ho; subst ho; exact hlt o (mem hoj')) hs1 hd1 h1)
            intro a' w' g1 g2 g3
            exact ⟨g3.1, rfl, g1, g2, g3.2⟩
          | cons i r1 ih1 =>
            intro l1 a1 hin hl inv1 hw1 hs1 hd1 h1
            unfold groupLex at hl
            split at hl
            · rename_i hci
              simp only [Bool.and_eq_true] at hci
              have hk : i ∈ Region.ready .any all.toArray l1 := by simpa using hci.1
              obtain ⟨_, oi, hoi, _⟩ := mem_ready.1 hk
              have hoi' : all[i]? = some oi := by simpa using hoi
              have hri := List.all_eq_true.1 hrd i (hin i (by simp))
              unfold readOp at hri
              rw [hoi] at hri
              simp only [List.filterMap_cons, hoi'] at h1
              rw [show strip all (oi :: r1.filterMap fun i => all[i]?) = strip all [oi] ++ strip all (r1.filterMap fun i => all[i]?) by obtain ⟨d, op, t, p, af, g⟩ := oi; cases g <;> rfl, opsQ_append] at h1
              have hdst : ∀ d, oi.dst = some d → d < a1.tmps.size := fun d hd' => by rw [hs1]; exact hlt oi (mem hoi') d hd'
              have hfin := fun v hv => ih1 (l1.setIfInBounds i true) (a1.put oi.dst v) (fun k hk => hin k (by simp [hk])) hl (hinv_step inv1 hk) (hw1.step i) (by rw [put_size]; exact hs1) (by rw [put_defers]; exact hd1) (by rw [envOf_put a1 oi.dst v hdst]; exact hv)
              rcases opsQ_single h1 with ⟨hw, v, g1, g2⟩ | ⟨hw, g2⟩
              · refine heldL_first (is := is ++ [j]) hoi (Region.noSelect_spec hsel) hP (by simp [hin i (by simp)]) hdone (r1.length + 1) l1 a1 w inv1 hw1 (Region.free_spec hoi hci.2) hk (.inl ⟨by rw [yieldE_envOf] at hw; exact hw, fun w' hw' => ?_⟩) hS (hfin v g2)
                have := RunQ_read hri g1 w' hw'
                rw [evE_envOf] at this
                exact this
              · exact heldL_first (is := is ++ [j]) hoi (Region.noSelect_spec hsel) hP (by simp [hin i (by simp)]) hdone (r1.length + 1) l1 a1 w inv1 hw1 (Region.free_spec hoi hci.2) hk (.inr ⟨by rw [yieldE_envOf] at hw; exact hw, rfl⟩) hS (hfin undef g2)
            · cases hl
        refine wpAny_of_HL (g := scriptLen r) (fun l'' a' w' hL => ?_) (is.length + 1) listed a w (key is listed a (fun i hi => hi) hg inv hwt' hs hd h)
        obtain ⟨rfl, h1, h2, h3⟩ := hL
        exact ih _ _ _ hc (hinv_step inv' hkj) h1 h2 h3
/-- a region that draws its order: by a script -/
theorem draw_script {n id : Nat} {l : List Oper} {K : Env → World → Prop} {w : World} {ρ : Env} (ps : List Ph) (hm : P.follows .mixedOrders = true) (hB : (Region.noSelect l.toArray && chk .any l.toArray ps (Array.replicate l.toArray.size false) && decide (scriptLen ps = l.toArray.size)) = true) (hn : opsLt n l.toArray = true)
    (h : opsPh P l K ps ρ w.drew) : DrawE P n id l.toArray K ρ w := by
  intro a hs hd he
  subst he
  simp only [Bool.and_eq_true, decide_eq_true_eq] at hB
  refine wp_region_any hm ?_
  have := opsPh_sound (P := P) (Q' := fun e a' w' => a'.tmps.size = n ∧ a'.defers = [] ∧ thenE K (fun _ _ _ => False) e (envOf a') w') (opsLt_spec hn) hB.1.1 (fun a w g1 g2 g3 => ⟨g1, g2, g3⟩) (fun c a w h => h.2.2) ps _ a w.drew hB.1.2 (hinv_zero _ _) hs hd h
  rw [hB.2] at this
  exact this
theorem opsPh_nil {all : List Oper} {K : Env → World → Prop} {ρ : Env} {w : World} : opsPh P all K [] ρ w = K ρ w := (rfl)
def contP (P : Program) (all : List Oper) (K : Env → World → Prop) (r : List Ph) (w : World) (ρ : Env) : Prop := opsPh P all K r ρ w
theorem contP_app {all : List Oper} {K : Env → World → Prop} {r : List Ph} {ρ : Env} {w : World} : contP P all K r w ρ = opsPh P all K r ρ w := (rfl)
theorem opsPh_pure {all : List Oper} {K : Env → World → Prop} {r : List Ph} {ρ : Env} {w : World} (i : Nat) : opsPh P all K (.pure i :: r) ρ w = opsQ P (fun w : World => w) (contP P all K r w) (strip all ((all[i]?).toList)) ρ := (rfl)
theorem opsPh_one {all : List Oper} {K : Env → World → Prop} {r : List Ph} {ρ : Env} {w : World} (i : Nat) : opsPh P all K (.one i :: r) ρ w = opsS P (opsPh P all K r) (strip all ((all[i]?).toList)) ρ w := (rfl)
theorem opsPh_still {all : List Oper} {K : Env → World → Prop} {r : List Ph} {ρ : Env} {w : World} (is : List Nat) : opsPh P all K (.still is :: r) ρ w = opsQ P (fun _ : Unit => w) (contP P all K r w) (strip all (is.filterMap fun i => all[i]?)) ρ := (rfl)
theorem opsPh_held {all : List Oper} {K : Env → World → Prop} {r : List Ph} {ρ : Env} {w : World} (is : List Nat) (j : Nat) (S : World → Prop) (hS : S w)
    (h : opsQ P (fun i : { w : World // S w } => i.1) (fun ρ' => opsS P (fun ρ'' w'' => S w'' ∧ opsPh P all K r ρ'' w'') (strip all ((all[j]?).toList)) ρ' w) (strip all (is.filterMap fun i => all[i]?)) ρ) : opsPh P all K (.held is j :: r) ρ w := ⟨S, hS, h⟩
end
attribute [go_sem] opsPh_nil contP_app opsPh_pure opsPh_one opsPh_still
attribute [go_sem] contQ_app opsQ_nil opsQ_plain guardQ_t guardQ_f guardQ_u Q_move Q_assign Q_makeFunc Q_nilCheck Q_pick_t Q_pick_f Q_build Q_load Q_binOp Q_unOp Q_convert Q_makeInterface Q_slice Q_fieldAddr Q_field Q_indexAddr Q_index Q_lookup Q_entry Q_extract Q_cap Q_len Q_max Q_min
end Go.Eng
