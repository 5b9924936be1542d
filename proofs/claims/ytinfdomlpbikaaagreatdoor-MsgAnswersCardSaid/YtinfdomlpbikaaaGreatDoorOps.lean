/-
  What each operation of the program comes to, over the engine's environment.
-/
import Derived.Test.YtinfdomlpbikaaaGreatDoorEng
namespace Go.Eng
set_option linter.unusedSimpArgs false
open Go
section
variable {P : Program}

def ValR (k : Value → World → Prop) : Result Value → Prop
  | .ok v w => k v w
  | .halt _ _ => False
def UnitR (k : World → Prop) : Result Unit → Prop
  | .ok _ w => k w
  | .halt _ _ => False
@[simp] theorem ValR_ok (k : Value → World → Prop) (v : Value) (w : World) : ValR k (.ok v w) = k v w := (rfl)
@[simp] theorem UnitR_ok (k : World → Prop) (w : World) : UnitR k (.ok () w) = k w := (rfl)
/-- a value's operation -/
def ValK (P : Program) (s : Sem Value) (w : World) (k : Value → World → Prop) : Prop := ValR k (s.run P w)
def UnitK (P : Program) (s : Sem Unit) (w : World) (k : World → Prop) : Prop := UnitR k (s.run P w)

theorem ValK_ok {s : Sem Value} {w w' : World} {v : Value} {k : Value → World → Prop} (h : s.run P w = .ok v w') (hk : k v w') : ValK P s w k := by
  unfold ValK; rw [h]; exact hk
theorem UnitK_ok {s : Sem Unit} {w w' : World} {k : World → Prop} (h : s.run P w = .ok () w') (hk : k w') : UnitK P s w k := by
  unfold UnitK; rw [h]; exact hk
theorem NextK_v (s : Sem Value) (w : World) (k : Value → World → Prop) : RunK P (do pure (.value (← s))) w k = ValK P s w k := by
  unfold RunK ValK
  simp only [Sem.run_bind]
  cases s.run P w <;> rfl
theorem NextK_u (s : Sem Unit) (w : World) (k : Value → World → Prop) : RunK P (do s; pure .skip) w k = UnitK P s w (k undef) := by
  unfold RunK UnitK
  simp only [Sem.run_bind]
  cases s.run P w <;> rfl

/-! ### the environment -/
theorem evE_tmp (ρ : Env) (t : Tmp) : evE ρ (.tmp t) = ρ t := (rfl)
theorem evE_const (ρ : Env) (v : Value) : evE ρ (.const v) = v := (rfl)
theorem evE_func (ρ : Env) (f : FuncId) : evE ρ (.func f) = .func (.func f) #[] #[] := (rfl)
theorem putE_none (ρ : Env) (v : Value) : putE ρ none v = ρ := (rfl)
theorem putE_at (ρ : Env) (d : Tmp) (v : Value) (j : Nat) : putE ρ (some d) v j = if j = d then v else ρ j := (rfl)
theorem argE_nil (j : Nat) : argE [] j = undef := by simp [argE]
theorem argE_cons (v : Value) (l : List Value) (j : Nat) : argE (v :: l) j = if j = 0 then v else argE l (j - 1) := by
  cases j with
  | zero => simp [argE]
  | succ j => simp [argE]

/-! ### regions in the text's order -/
/-- an operation, stripped: its slot, what it does, its type, the slot of its guard -/
structure SOp where
  dst : Option Tmp
  op : Op
  ty : TypeId
  guard : Option (Option Tmp × Bool)
def dstOf : Nat → List Oper → Option Tmp
  | _, [] => none
  | 0, o :: _ => o.dst
  | j + 1, _ :: r => dstOf j r
def strip (all : List Oper) : List Oper → List SOp
  | [] => []
  | ⟨d, op, t, _, _, none⟩ :: r => ⟨d, op, t, none⟩ :: strip all r
  | ⟨d, op, t, _, _, some (j, b)⟩ :: r => ⟨d, op, t, some (dstOf j all, b)⟩ :: strip all r
def RunO (P : Program) (op : Op) (ty : TypeId) (e : Operand → Value) (w : World) (k : Value → World → Prop) : Prop :=
  RunK P (execOp e ⟨none, op, ty, "", #[], none⟩) w k
/-- a guard's outcome: 'c' is what the guard's own slot holds -/
def GuardE (c : Value) (want : Bool) (t e : Prop) : Prop :=
  match c with
  | .bool b => if b == want then t else e
  | _ => e
def GuardO (o : Option Tmp) (ρ : Env) (want : Bool) (t e : Prop) : Prop :=
  match o with
  | some dj => GuardE (ρ dj) want t e
  | none => e
def opsS (P : Program) (K : Env → World → Prop) : List SOp → Env → World → Prop
  | [], ρ, w => K ρ w
  | ⟨d, op, t, none⟩ :: r, ρ, w => RunO P op t (evE ρ) w (fun v w' => opsS P K r (putE ρ d v) w')
  | ⟨d, op, t, some (g, want)⟩ :: r, ρ, w => GuardO g ρ want (RunO P op t (evE ρ) w (fun v w' => opsS P K r (putE ρ d v) w')) (opsS P K r (putE ρ d undef) w)
variable {K : Env → World → Prop} {ρ : Env} {w : World}
theorem dstOf_eq (l : List Oper) : ∀ j, (l.toArray[j]?).bind (·.dst) = dstOf j l := by
  induction l with
  | nil => intro j; cases j <;> simp [dstOf]
  | cons o r ih => intro j; cases j with
    | zero => simp [dstOf]
    | succ j => have := ih j; simpa [dstOf] using this
theorem guard_key (c : Value) (want : Bool) (X Y : Prop) :
    (if ((match c with | .bool b => some b | _ => none : Option Bool) == some want) = true then X else Y) = GuardE c want X Y := by
  cases c with
  | bool b => cases b <;> cases want <;> rfl
  | _ => simp [GuardE]
theorem opsE_strip (all : List Oper) : ∀ (l : List Oper) (ρ : Env) (w : World), opsE P all.toArray K l ρ w = opsS P K (strip all l) ρ w := by
  intro l
  induction l with
  | nil => intro ρ w; rfl
  | cons o r ih =>
    intro ρ w
    obtain ⟨d, op, t, p, a, g⟩ := o
    have hx : ∀ e, execOp e ⟨d, op, t, p, a, g⟩ = execOp e ⟨none, op, t, "", #[], none⟩ := fun e => rfl
    cases g with
    | none =>
      simp only [opsE, strip, opsS, RunO, Region.wanted, ih, hx, if_true]
    | some g =>
      obtain ⟨j, want⟩ := g
      simp only [opsE, strip, opsS, RunO, Region.wanted, ih, hx, yieldE, dstOf_eq, GuardO]
      cases dstOf j all with
      | none => simp
      | some dj =>
        exact guard_key _ _ _ _
theorem den_region (n id : Nat) (l : List Oper) (K : Exit → Env → World → Prop) : den P n (.region id l.toArray false) K ρ w = opsS P (K .normal) (strip l l) ρ w := by
  simp only [den, opsE_strip]
theorem opsS_nil : opsS P K [] ρ w = K ρ w := (rfl)
/-- what follows an operation of slot 'd' -/
def contS (P : Program) (K : Env → World → Prop) (r : List SOp) (ρ : Env) (d : Option Tmp) : Value → World → Prop := fun v w' => opsS P K r (putE ρ d v) w'
theorem contS_app (r : List SOp) (d : Option Tmp) (v : Value) : contS P K r ρ d v w = opsS P K r (putE ρ d v) w := (rfl)
theorem opsS_plain (d : Option Tmp) (op : Op) (t : TypeId) (r : List SOp) :
    opsS P K (⟨d, op, t, none⟩ :: r) ρ w = RunO P op t (evE ρ) w (contS P K r ρ d) := (rfl)
theorem opsS_guard (d : Option Tmp) (op : Op) (t : TypeId) (r : List SOp) (g : Tmp) (want : Bool) :
    opsS P K (⟨d, op, t, some (some g, want)⟩ :: r) ρ w = GuardE (ρ g) want (RunO P op t (evE ρ) w (contS P K r ρ d)) (opsS P K r (putE ρ d undef) w) := (rfl)
theorem GuardE_bool (b want : Bool) (t e : Prop) : GuardE (.bool b) want t e = if b == want then t else e := (rfl)
theorem GuardE_split {b want : Bool} {t e : Prop} (h1 : b = want → t) (h2 : b = !want → e) : GuardE (.bool b) want t e := by
  cases b <;> cases want <;> first | exact h1 rfl | exact h2 rfl
theorem guard_t (d : Option Tmp) (op : Op) (t : TypeId) (r : List SOp) (g : Tmp) (want : Bool) (h : ρ g = .bool want) :
    opsS P K (⟨d, op, t, some (some g, want)⟩ :: r) ρ w = RunO P op t (evE ρ) w (contS P K r ρ d) := by
  rw [opsS_guard, h]; simp [GuardE]
theorem guard_f (d : Option Tmp) (op : Op) (t : TypeId) (r : List SOp) (g : Tmp) (want : Bool) (h : ρ g = .bool !want) :
    opsS P K (⟨d, op, t, some (some g, want)⟩ :: r) ρ w = opsS P K r (putE ρ d undef) w := by
  rw [opsS_guard, h]; cases want <;> simp [GuardE]
theorem guard_u (d : Option Tmp) (op : Op) (t : TypeId) (r : List SOp) (g : Tmp) (want : Bool) (h : ρ g = undef) :
    opsS P K (⟨d, op, t, some (some g, want)⟩ :: r) ρ w = opsS P K r (putE ρ d undef) w := by
  rw [opsS_guard, h]; simp [GuardE, undef]
/-- a guard that is not decided: both ways -/
theorem guard_split {d : Option Tmp} {op : Op} {t : TypeId} {r : List SOp} {g : Tmp} {want : Bool} (b : Bool) (h : ρ g = .bool b)
    (h1 : b = want → opsS P K (⟨d, op, t, some (some g, want)⟩ :: r) ρ w) (h2 : b = !want → opsS P K (⟨d, op, t, some (some g, want)⟩ :: r) ρ w) :
    opsS P K (⟨d, op, t, some (some g, want)⟩ :: r) ρ w := by
  cases b <;> cases want <;> first | exact h1 rfl | exact h2 rfl

/-! ### the operations -/
section
variable (e : Operand → Value) (ty : TypeId) (k : Value → World → Prop)
theorem R_move (x : Operand) : RunO P (.move x) ty e w k = k (e x) w := (rfl)
theorem R_assign (x : Operand) : RunO P (.assign x) ty e w k = k (e x) w := (rfl)
theorem R_pick (c x y : Operand) (b : Bool) (h : e c = .bool b) : RunO P (.pick c x y) ty e w k = k (if b then e x else e y) w := by
  unfold RunO RunK
  simp only [execOp, Sem.run_bind, h]
  rfl
theorem R_pick_t (c x y : Operand) (h : e c = .bool true) : RunO P (.pick c x y) ty e w k = k (e x) w := by
  rw [R_pick e ty k c x y true h]; rfl
theorem R_pick_f (c x y : Operand) (h : e c = .bool false) : RunO P (.pick c x y) ty e w k = k (e y) w := by
  rw [R_pick e ty k c x y false h]; rfl
theorem R_alloc (t : TypeId) : RunO P (.alloc t) ty e w k = ValK P (Instr.alloc t true (.tuple #[])) w k := NextK_v _ _ _
theorem R_box (t : TypeId) (x : Operand) : RunO P (.box t x) ty e w k = k (.pointer (some ⟨w.heap.size, 0, none⟩)) (w.alloc (.cells (e x).cells t)) := (rfl)
theorem R_build (t : TypeId) (ps : Array (Nat × Operand)) : RunO P (.build t ps) ty e w k = ValK P (Instr.build t (ps.map fun (i, x) => (i, e x))) w k := NextK_v _ _ _
def K_buildSlice (P : Program) (t : TypeId) (n : Nat) (ps : Array (Nat × Value)) (w : World) (k : Value → World → Prop) : Prop := ValK P (Instr.buildSlice t n ps) w k
theorem K_buildSlice_ok (t : TypeId) (n : Nat) (ps : Array (Nat × Value)) {w' : World} {v : Value} (h : (Instr.buildSlice t n ps).run P w = .ok v w') : K_buildSlice P t n ps w k = k v w' := by unfold K_buildSlice ValK; rw [h]; rfl
theorem R_buildSlice (t : TypeId) (n : Nat) (ps : Array (Nat × Operand)) : RunO P (.buildSlice t n ps) ty e w k = K_buildSlice P t n (ps.map fun (i, x) => (i, e x)) w k := NextK_v _ _ _
def K_load (P : Program) (t : TypeId) (x : Value) (w : World) (k : Value → World → Prop) : Prop := ValK P (Instr.loadAt t x) w k
theorem K_load_ok (t : TypeId) (x : Value) {w' : World} {v : Value} (h : (Instr.loadAt t x).run P w = .ok v w') : K_load P t x w k = k v w' := by unfold K_load ValK; rw [h]; rfl
theorem run_load1 (t : TypeId) (a : Addr) {v : Value} (ha : (isAgg t).run P w = .ok false w) (hv : w.cell? a = some v) : (Instr.loadAt t (.pointer (some a))).run P w = .ok v w := by
  simp only [Instr.loadAt, Instr.sureAddr, Sem.run_bind, Sem.run_pure, Result.andThen_ok, loadVar, ha, Bool.false_eq_true, if_false, run_load, hv]
theorem K_load_1 (t : TypeId) (a : Addr) {v : Value} (ha : (isAgg t).run P w = .ok false w) (hv : w.cell? a = some v) : K_load P t (.pointer (some a)) w k = k v w := K_load_ok k t _ (run_load1 t a ha hv)
theorem R_load (t : TypeId) (x : Operand) : RunO P (.load t x) ty e w k = K_load P t (e x) w k := NextK_v _ _ _
def K_store (P : Program) (t : TypeId) (x y : Value) (w : World) (k : World → Prop) : Prop := UnitK P (Instr.storeAt t x y) w k
theorem K_store_ok (t : TypeId) (x y : Value) {w' : World} {k : World → Prop} (h : (Instr.storeAt t x y).run P w = .ok () w') : K_store P t x y w k = k w' := by unfold K_store UnitK; rw [h]; rfl
theorem R_store (t : TypeId) (x y : Operand) : RunO P (.store t x y) ty e w k = K_store P t (e x) (e y) w (k undef) := NextK_u _ _ _
def NilK (P : Program) (v : Value) (w : World) (k : Value → World → Prop) : Prop :=
  RunK P (execOp (fun _ => v) ⟨none, .nilCheck (.const v), 0, "", #[], none⟩) w k
theorem NilK_ptr (q : Addr) : NilK P (.pointer (some q)) w k = k (.pointer (some q)) w := (rfl)
theorem R_nilCheck (x : Operand) : RunO P (.nilCheck x) ty e w k = NilK P (e x) w k := (rfl)
theorem R_binOp (op : BinOp) (t : TypeId) (x y : Operand) (u : TypeId) : RunO P (.binOp op t x y u) ty e w k = ValK P (do eqGuard op t x y (e x) (e y); binOp op t (e x) (e y)) w k := NextK_v _ _ _
theorem R_unOp (op : UnOp) (t : TypeId) (x : Operand) : RunO P (.unOp op t x) ty e w k = ValK P (Op.unary op (e x)) w k := NextK_v _ _ _
theorem R_convert (s t : TypeId) (x : Operand) : RunO P (.convert s t x) ty e w k = ValK P (convert s t (e x)) w k := NextK_v _ _ _
theorem R_makeInterface (t : TypeId) (x : Operand) : RunO P (.makeInterface t x) ty e w k = ValK P (Instr.makeInterface t (e x)) w k := NextK_v _ _ _
theorem R_makeFunc (f : Fn) (x y : Array Operand) : RunO P (.makeFunc f x y) ty e w k = k (.func f (x.map e) (y.map e)) w := (rfl)
theorem R_makeMap (t : TypeId) : RunO P (.makeMap t none) ty e w k = k (.map (some w.heap.size)) (w.alloc (.map #[] 0)) := (rfl)
def K_makeSlice (P : Program) (t : TypeId) (x y : Value) (w : World) (k : Value → World → Prop) : Prop := ValK P (Instr.makeSlice t x y) w k
theorem K_makeSlice_ok (t : TypeId) (x y : Value) {w' : World} {v : Value} (h : (Instr.makeSlice t x y).run P w = .ok v w') : K_makeSlice P t x y w k = k v w' := by unfold K_makeSlice ValK; rw [h]; rfl
theorem R_makeSlice (t : TypeId) (x y : Operand) : RunO P (.makeSlice t x y) ty e w k = K_makeSlice P t (e x) (e y) w k := NextK_v _ _ _
theorem R_slice (t : TypeId) (x : Operand) (lo hi mx : Option Operand) : RunO P (.slice t x lo hi mx) ty e w k = ValK P (Instr.sliceAt t (e x) (lo.map e) (hi.map e) (mx.map e)) w k := NextK_v _ _ _
theorem R_fieldAddr (t : TypeId) (x : Operand) (f : Nat) : RunO P (.fieldAddr t x f) ty e w k = ValK P (Instr.fieldAt t (e x) f) w k := NextK_v _ _ _
theorem R_field (t : TypeId) (x : Operand) (f : Nat) : RunO P (.field t x f) ty e w k = ValK P (Instr.field t (e x) f) w k := NextK_v _ _ _
theorem R_indexAddr (t : TypeId) (x y : Operand) : RunO P (.indexAddr t x y) ty e w k = ValK P (Instr.indexAt t (e x) (e y)) w k := NextK_v _ _ _
theorem R_index (t : TypeId) (x y : Operand) : RunO P (.index t x y) ty e w k = ValK P (Instr.index t (e x) (e y)) w k := NextK_v _ _ _
def K_lookup (P : Program) (t : TypeId) (x y : Value) (ok : Bool) (w : World) (k : Value → World → Prop) : Prop := ValK P (Instr.lookup t x y ok) w k
theorem K_lookup_ok (t : TypeId) (x y : Value) (ok : Bool) {w' : World} {v : Value} (h : (Instr.lookup t x y ok).run P w = .ok v w') : K_lookup P t x y ok w k = k v w' := by unfold K_lookup ValK; rw [h]; rfl
theorem R_lookup (t : TypeId) (x y : Operand) (ok : Bool) : RunO P (.lookup t x y ok) ty e w k = K_lookup P t (e x) (e y) ok w k := NextK_v _ _ _
def K_mapUpdate (P : Program) (t : TypeId) (x y z : Value) (w : World) (k : World → Prop) : Prop := UnitK P (Instr.mapUpdate t x y z) w k
theorem K_mapUpdate_ok (t : TypeId) (x y z : Value) {w' : World} {k : World → Prop} (h : (Instr.mapUpdate t x y z).run P w = .ok () w') : K_mapUpdate P t x y z w k = k w' := by unfold K_mapUpdate UnitK; rw [h]; rfl
theorem R_mapUpdate (t : TypeId) (x y z : Operand) : RunO P (.mapUpdate t x y z) ty e w k = K_mapUpdate P t (e x) (e y) (e z) w (k undef) := NextK_u _ _ _
theorem R_insert (t : TypeId) (x y z : Operand) : RunO P (.insert t x y z) ty e w k = K_mapUpdate P t (e x) (e y) (e z) w (k undef) := NextK_u _ _ _
def K_range (P : Program) (t : TypeId) (x : Value) (w : World) (k : Value → World → Prop) : Prop := ValK P (Instr.range t x) w k
theorem K_range_ok (t : TypeId) (x : Value) {w' : World} {v : Value} (h : (Instr.range t x).run P w = .ok v w') : K_range P t x w k = k v w' := by unfold K_range ValK; rw [h]; rfl
theorem R_range (t : TypeId) (x : Operand) : RunO P (.range t x) ty e w k = K_range P t (e x) w k := NextK_v _ _ _
def K_next (P : Program) (x : Value) (s : Bool) (ty : TypeId) (w : World) (k : Value → World → Prop) : Prop := ValK P (Instr.next x s ty) w k
theorem K_next_ok (x : Value) (s : Bool) (ty : TypeId) {w' : World} {v : Value} (h : (Instr.next x s ty).run P w = .ok v w') : K_next P x s ty w k = k v w' := by unfold K_next ValK; rw [h]; rfl
theorem R_next (x : Operand) (s : Bool) : RunO P (.next x s) ty e w k = K_next P (e x) s ty w k := NextK_v _ _ _
def K_entry (P : Program) (x : Value) (w : World) (k : Value → World → Prop) : Prop := ValK P (Instr.entry x) w k
theorem K_entry_ok (x : Value) {w' : World} {v : Value} (h : (Instr.entry x).run P w = .ok v w') : K_entry P x w k = k v w' := by unfold K_entry ValK; rw [h]; rfl
theorem R_entry (x : Operand) : RunO P (.entry x) ty e w k = K_entry P (e x) w k := NextK_v _ _ _
theorem R_extract (x : Operand) (i : Nat) : RunO P (.extract x i) ty e w k = ValK P (Instr.extract (e x) i) w k := NextK_v _ _ _
/-- a call through a function's value -/
def CallV (P : Program) (f : Value) (args : Array Value) (w : World) (k : Value → World → Prop) : Prop :=
  RunK P (do let d ← Deferred.ofValue f args; invoke d.target d.args) w k
theorem R_call (f : Operand) (args : Array Operand) (ts : Array TypeId) : RunO P (.call ⟨.value f, args, ts⟩) ty e w k = CallV P (e f) (args.map e) w k := (rfl)
theorem CallV_func (f : FuncId) (first cap args : Array Value) (h : ∀ args w, (callFunc f args).run P w = .ok (.enter f args) w) :
    CallV P (.func (.func f) first cap) args w k = CallP P f (first ++ args ++ cap) w k := by
  unfold CallV RunK
  simp only [Deferred.ofValue, Sem.run_bind, Sem.run_pure, Result.andThen_ok, invoke, h]
  rfl
theorem R_builtin (b : Builtin) (args : Array Operand) (ts : Array TypeId) : RunO P (.call ⟨.builtin b, args, ts⟩) ty e w k =
    RunK P (builtin b ts ty (args.map fun | .const _ => true | _ => false) (args.map e)) w k := by
  unfold RunO RunK
  simp only [execOp, resolve, Sem.run_bind, Sem.run_pure, Result.andThen_ok, invoke]
  rfl
def K_append (P : Program) (ts : Array TypeId) (ty : TypeId) (args : Array Value) (w : World) (k : Value → World → Prop) : Prop := ValK P (Builtin.append_ ts ty args) w k
theorem K_append_ok (ts : Array TypeId) (args : Array Value) {w' : World} {v : Value} (h : (Builtin.append_ ts ty args).run P w = .ok v w') : K_append P ts ty args w k = k v w' := by unfold K_append ValK; rw [h]; rfl
theorem B_append (ts : Array TypeId) (cs : Array Bool) (args : Array Value) : RunK P (builtin .append ts ty cs args) w k = K_append P ts ty args w k := NextK_v _ _ _
theorem B_cap (ts : Array TypeId) (cs : Array Bool) (args : Array Value) : RunK P (builtin .cap ts ty cs args) w k = ValK P (Builtin.cap_ ts ty args) w k := NextK_v _ _ _
def K_clear (P : Program) (ts : Array TypeId) (ty : TypeId) (args : Array Value) (w : World) (k : Value → World → Prop) : Prop := ValK P (Builtin.clear_ ts ty args) w k
theorem K_clear_ok (ts : Array TypeId) (args : Array Value) {w' : World} {v : Value} (h : (Builtin.clear_ ts ty args).run P w = .ok v w') : K_clear P ts ty args w k = k v w' := by unfold K_clear ValK; rw [h]; rfl
theorem B_clear (ts : Array TypeId) (cs : Array Bool) (args : Array Value) : RunK P (builtin .clear ts ty cs args) w k = K_clear P ts ty args w k := NextK_v _ _ _
def K_copy (P : Program) (ts : Array TypeId) (ty : TypeId) (args : Array Value) (w : World) (k : Value → World → Prop) : Prop := ValK P (Builtin.copy_ ts ty args) w k
theorem K_copy_ok (ts : Array TypeId) (args : Array Value) {w' : World} {v : Value} (h : (Builtin.copy_ ts ty args).run P w = .ok v w') : K_copy P ts ty args w k = k v w' := by unfold K_copy ValK; rw [h]; rfl
theorem B_copy (ts : Array TypeId) (cs : Array Bool) (args : Array Value) : RunK P (builtin .copy ts ty cs args) w k = K_copy P ts ty args w k := NextK_v _ _ _
def K_delete (P : Program) (ts : Array TypeId) (ty : TypeId) (args : Array Value) (w : World) (k : Value → World → Prop) : Prop := ValK P (Builtin.delete_ ts ty args) w k
theorem K_delete_ok (ts : Array TypeId) (args : Array Value) {w' : World} {v : Value} (h : (Builtin.delete_ ts ty args).run P w = .ok v w') : K_delete P ts ty args w k = k v w' := by unfold K_delete ValK; rw [h]; rfl
theorem B_delete (ts : Array TypeId) (cs : Array Bool) (args : Array Value) : RunK P (builtin .delete ts ty cs args) w k = K_delete P ts ty args w k := NextK_v _ _ _
theorem B_len (ts : Array TypeId) (cs : Array Bool) (args : Array Value) : RunK P (builtin .len ts ty cs args) w k = ValK P (Builtin.len_ ts ty args) w k := NextK_v _ _ _
theorem B_max (ts : Array TypeId) (cs : Array Bool) (args : Array Value) : RunK P (builtin .max ts ty cs args) w k = ValK P (Builtin.max_ ts ty args) w k := NextK_v _ _ _
theorem B_min (ts : Array TypeId) (cs : Array Bool) (args : Array Value) : RunK P (builtin .min ts ty cs args) w k = ValK P (Builtin.min_ ts ty args) w k := NextK_v _ _ _
theorem R_append (ts : Array TypeId) (args : Array Operand) : RunO P (.call ⟨.builtin .append, args, ts⟩) ty e w k = K_append P ts ty (args.map e) w k := by rw [R_builtin, B_append]
theorem R_copy (ts : Array TypeId) (args : Array Operand) : RunO P (.call ⟨.builtin .copy, args, ts⟩) ty e w k = K_copy P ts ty (args.map e) w k := by rw [R_builtin, B_copy]
theorem R_delete (ts : Array TypeId) (args : Array Operand) : RunO P (.call ⟨.builtin .delete, args, ts⟩) ty e w k = K_delete P ts ty (args.map e) w k := by rw [R_builtin, B_delete]
theorem R_clear (ts : Array TypeId) (args : Array Operand) : RunO P (.call ⟨.builtin .clear, args, ts⟩) ty e w k = K_clear P ts ty (args.map e) w k := by rw [R_builtin, B_clear]
theorem R_cap (ts : Array TypeId) (args : Array Operand) : RunO P (.call ⟨.builtin .cap, args, ts⟩) ty e w k = ValK P (Builtin.cap_ ts ty (args.map e)) w k := by rw [R_builtin, B_cap]
theorem R_len (ts : Array TypeId) (args : Array Operand) : RunO P (.call ⟨.builtin .len, args, ts⟩) ty e w k = ValK P (Builtin.len_ ts ty (args.map e)) w k := by rw [R_builtin, B_len]
theorem R_max (ts : Array TypeId) (args : Array Operand) : RunO P (.call ⟨.builtin .max, args, ts⟩) ty e w k = ValK P (Builtin.max_ ts ty (args.map e)) w k := by rw [R_builtin, B_max]
theorem R_min (ts : Array TypeId) (args : Array Operand) : RunO P (.call ⟨.builtin .min, args, ts⟩) ty e w k = ValK P (Builtin.min_ ts ty (args.map e)) w k := by rw [R_builtin, B_min]
end
/-! ### code -/
section
variable (next : Env → World → Prop) (K : Exit → Env → World → Prop)
theorem then_normal : thenE next K .normal = next := (rfl)
theorem then_exit (i : Nat) : thenE next K (.exit i) = K (.exit i) := (rfl)
theorem then_ret : thenE next K .ret = K .ret := (rfl)
theorem then_goto (i : Nat) : thenE next K (.goto i) = K (.goto i) := (rfl)
theorem block_normal (i : Nat) : blockE i K .normal = K .normal := (rfl)
theorem block_exit (i j : Nat) : blockE i K (.exit j) = if j = i then K .normal else K (.exit j) := (rfl)
theorem block_ret (i : Nat) : blockE i K .ret = K .ret := (rfl)
theorem block_goto (i j : Nat) : blockE i K (.goto j) = K (.goto j) := (rfl)
end
section
variable (n : Nat) (K : Exit → Env → World → Prop) (ρ : Env) (w : World)
theorem den_skip : den P n .skip K ρ w = K .normal ρ w := (rfl)
theorem den_draw (id : Nat) (ops : Array Oper) : den P n (.region id ops true) K ρ w = DrawE P n id ops (K .normal) ρ w := (rfl)
theorem den_seq (a b : Code) : den P n (.seq a b) K ρ w = den P n a (thenE (den P n b K) K) ρ w := (rfl)
theorem den_cond_t (c : Operand) (a b : Code) (h : evE ρ c = .bool true) : den P n (.cond c a b) K ρ w = den P n a K ρ w := by
  simp [den, CondE, h]
theorem den_cond_f (c : Operand) (a b : Code) (h : evE ρ c = .bool false) : den P n (.cond c a b) K ρ w = den P n b K ρ w := by
  simp [den, CondE, h]
theorem den_block (id : Nat) (c : Code) : den P n (.block id c) K ρ w = den P n c (blockE id K) ρ w := (rfl)
theorem den_exit (id : Nat) : den P n (.exit id) K ρ w = K (.exit id) ρ w := (rfl)
theorem den_ret : den P n .ret K ρ w = K .ret ρ w := (rfl)
end
/-- a test that is not decided: both ways -/
theorem den_split {n : Nat} {K : Exit → Env → World → Prop} {ρ : Env} {w : World} {c : Operand} {x y : Code} (b : Bool) (h : evE ρ c = .bool b)
    (h1 : b = true → den P n x K ρ w) (h2 : b = false → den P n y K ρ w) : den P n (.cond c x y) K ρ w := by
  cases b
  · rw [den_cond_f n K ρ w c x y h]; exact h2 rfl
  · rw [den_cond_t n K ρ w c x y h]; exact h1 rfl
/-- a loop: the invariant's number goes down -/
theorem den_loop {n : Nat} {K : Exit → Env → World → Prop} {ρ : Env} {w : World} {c : Code} (I : Nat → Env → World → Prop) (m : Nat) (h0 : I m ρ w)
    (h : ∀ m ρ w, I m ρ w → den P n c (thenE (fun ρ' w' => ∃ m', m' < m ∧ I m' ρ' w') K) ρ w) : den P n (.loop c) K ρ w :=
  ⟨I, m, h0, h⟩

/-! ### the results -/
def RetR (P : Program) (rs : Array ResultVar) (ρ : Env) (w : World) (k : Value → World → Prop) : Prop :=
  ∃ v, (do
    let vs ← rs.mapM fun
      | .tmp t => pure (ρ t)
      | .cell a t => do loadVar t (← asAddr (ρ a))
    pure (if h : vs.size = 1 then vs[0] else .tuple vs) : Sem Value).run P w = .ok v w ∧ k v w
section
variable (fn : Func) (ρ : Env) (w : World) (k : Value → World → Prop)
theorem retK_ret : retK P fn k .ret ρ w = RetR P fn.results ρ w k := (rfl)
theorem retK_normal : retK P fn k .normal ρ w = RetR P fn.results ρ w k := (rfl)
theorem RetR_0 : RetR P #[] ρ w k = k (.tuple #[]) w := by simp [RetR]
theorem RetR_1 (t : Tmp) : RetR P #[.tmp t] ρ w k = k (ρ t) w := by simp [RetR]
theorem RetR_2 (t u : Tmp) : RetR P #[.tmp t, .tmp u] ρ w k = k (.tuple #[ρ t, ρ u]) w := by simp [RetR]
theorem RetR_3 (t u v : Tmp) : RetR P #[.tmp t, .tmp u, .tmp v] ρ w k = k (.tuple #[ρ t, ρ u, ρ v]) w := by simp [RetR]
theorem RetR_4 (t u v x : Tmp) : RetR P #[.tmp t, .tmp u, .tmp v, .tmp x] ρ w k = k (.tuple #[ρ t, ρ u, ρ v, ρ x]) w := by simp [RetR]
end
end
attribute [go_sem] den_region  den_skip  den_draw  den_seq  den_cond_t  den_cond_f  den_block  den_exit  den_ret  strip  dstOf  opsS_nil  opsS_plain  guard_t  guard_f  guard_u  contS_app  R_move  R_assign  R_pick_t  R_pick_f  R_alloc  R_box  R_build  R_buildSlice  R_load  K_load_1  R_store  NilK_ptr  R_nilCheck  R_binOp  R_unOp  R_convert  R_makeInterface  R_makeFunc  R_makeMap  R_makeSlice  R_slice  R_fieldAddr  R_field  R_indexAddr  R_index  R_lookup  R_mapUpdate  R_insert  R_range  R_next  R_entry  R_extract  R_call  R_append R_copy R_delete R_clear R_cap R_len R_max R_min  evE_tmp  evE_const  evE_func  putE_none  putE_at  argE_nil  argE_cons  then_normal  then_exit  then_ret  then_goto  block_normal  block_exit  block_ret  block_goto  retK_ret  retK_normal  RetR_0  RetR_1  RetR_2  RetR_3  RetR_4  ValR_ok  UnitR_ok  CallV_func
def keepK {α : Type} (f : α) : α := f
attribute [go_sem] ValK UnitK
end Go.Eng
