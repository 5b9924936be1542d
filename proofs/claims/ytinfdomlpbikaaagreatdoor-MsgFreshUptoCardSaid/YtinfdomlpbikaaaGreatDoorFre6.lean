/-
  A region that draws its order, by a script in which readers float past several that act.
  What is asked and said of files, got by the document (printed by getgen.py).
  What is asked and said of files, got by the program (printed by getgen.py).
  What is asked and told about files, got by the document (printed by getgen.py).
  What is asked and told about files, got by the program (printed by getgen.py).
  What is asked and said, got: counted bytes.
  What is asked and said, got: bytes of a set length, by the document.
  What is asked, got by the document: the list of dialects.
  What is asked, got: the list of locks.
  What is told, got: the list of entries.
  What is asked, got: what a Set asks, what a Create asks.
-/
import Derived.Test.YtinfdomlpbikaaaGreatDoorFre1
import Derived.Test.YtinfdomlpbikaaaGreatDoorFre4
namespace Go.Eng.Ch
open Go Go.Eng
set_option linter.unusedSimpArgs false
set_option linter.unusedVariables false
section
variable {P : Program}
inductive Ph where
  | pure (i : Nat)
  | still (is : List Nat)
  | one (i : Nat)
  | chain (is : List Nat) (js : List Nat)
def Ph.len : Ph → Nat
  | .pure _ => 1
  | .still is => is.length
  | .one _ => 1
  | .chain is js => is.length + js.length
def scriptLen : List Ph → Nat
  | [] => 0
  | p :: r => p.len + scriptLen r
/-- the ones that act, in their order -/
def jsOk (md : Region.Mode) (ops : Array Oper) : List Nat → Array Bool → Option (Array Bool)
  | [], l => some l
  | j :: r, l => if decide (Region.ready md ops l = [j]) then jsOk md ops r (l.setIfInBounds j true) else none
def opsJs (P : Program) (all : List Oper) (S : World → Prop) (K : Env → World → Prop) : List Nat → Env → World → Prop
  | [], ρ, w => K ρ w
  | j :: r, ρ, w => opsS P (fun ρ' w' => S w' ∧ opsJs P all S K r ρ' w') (strip all ((all[j]?).toList)) ρ w
def chk (md : Region.Mode) (ops : Array Oper) : List Ph → Array Bool → Bool
  | [], listed => (Region.ready md ops listed).isEmpty
  | .pure i :: r, listed => (Region.ready md ops listed).contains i && Region.free md ops listed i && pureOp ops i && chk md ops r (listed.setIfInBounds i true)
  | .one i :: r, listed => decide (Region.ready md ops listed = [i]) && chk md ops r (listed.setIfInBounds i true)
  | .still is :: r, listed => waitsAll md ops is listed && match groupLex md ops is listed with
    | some l' => (is.all fun i => !(Region.ready md ops l').contains i) && chk md ops r l'
    | none => false
  | .chain is js :: r, listed => waitsAll md ops (is ++ js) listed && is.all (readOp ops) && match groupLex md ops is listed with
    | some l' => (match jsOk md ops js l' with
      | some l2 => ((is ++ js).all fun i => !(Region.ready md ops l2).contains i) && chk md ops r l2
      | none => false)
    | none => false
def opsPh (P : Program) (all : List Oper) (K : Env → World → Prop) : List Ph → Env → World → Prop
  | [], ρ, w => K ρ w
  | .pure i :: r, ρ, w => opsQ P (fun w : World => w) (fun ρ' => opsPh P all K r ρ' w) (strip all ((all[i]?).toList)) ρ
  | .one i :: r, ρ, w => opsS P (fun ρ' w' => opsPh P all K r ρ' w') (strip all ((all[i]?).toList)) ρ w
  | .still is :: r, ρ, w => opsQ P (fun _ : Unit => w) (fun ρ' => opsPh P all K r ρ' w) (strip all (is.filterMap fun i => all[i]?)) ρ
  | .chain is js :: r, ρ, w => ∃ S : World → Prop, S w ∧ opsQ P (fun i : { w : World // S w } => i.1) (fun ρ' => opsJs P all S (fun ρ'' w'' => opsPh P all K r ρ'' w'') js ρ' w) (strip all (is.filterMap fun i => all[i]?)) ρ
theorem jsOk_inv {md : Region.Mode} {ops : Array Oper} : ∀ (js : List Nat) (l l2 : Array Bool), jsOk md ops js l = some l2 → HeadInv md ops ops.size l → HeadInv md ops ops.size l2
  | [], l, l2, h, inv => by simp only [jsOk, Option.some.injEq] at h; subst h; exact inv
  | j :: r, l, l2, h, inv => by
    unfold jsOk at h
    split at h
    · rename_i hr
      have hr' : Region.ready md ops l = [j] := by simpa using hr
      exact jsOk_inv r _ _ h (hinv_step inv (by rw [hr']; simp))
    · cases h
theorem opsPh_sound {n : Nat} {all : List Oper} {K : Env → World → Prop} {Q' : Exit → Act → World → Prop} (hlt : ∀ o ∈ all, ∀ d, o.dst = some d → d < n) (hsel : Region.noSelect all.toArray = true)
    (hQ : ∀ a w, a.tmps.size = n → a.defers = [] → K (envOf a) w → Q' .normal a w) (hP : ∀ c a w, ¬ Q' (.panic c) a w) :
    ∀ (ps : List Ph) (listed : Array Bool) (a : Act) (w : World), chk .any all.toArray ps listed = true → HeadInv .any all.toArray all.toArray.size listed → a.tmps.size = n → a.defers = [] →
      opsPh P all K ps (envOf a) w → wpAny P .any all.toArray Q' (scriptLen ps) listed a w := by
  intro ps
  induction ps with
  | nil =>
    intro listed a w hc _ hs hd h
    exact ⟨by simpa [chk] using hc, hQ a w hs hd h⟩
  | cons ph r ih =>
    intro listed a w hc inv hs hd h
    have mem : ∀ {i : Nat} {o : Oper}, all[i]? = some o → o ∈ all := fun h => List.mem_of_getElem? h
    cases ph with
    | pure i =>
      simp only [chk, Bool.and_eq_true] at hc
      obtain ⟨⟨⟨hr, hf⟩, hp⟩, hc⟩ := hc
      have hk : i ∈ Region.ready .any all.toArray listed := by simpa using hr
      obtain ⟨_, oi, hoi, _⟩ := mem_ready.1 hk
      have hoi' : all[i]? = some oi := by simpa using hoi
      unfold pureOp at hp
      rw [hoi] at hp
      simp only [opsPh, hoi', Option.toList] at h
      have hdst : ∀ d, oi.dst = some d → d < a.tmps.size := fun d hd' => by rw [hs]; exact hlt oi (mem hoi') d hd'
      have next : ∀ v, opsPh P all K r (putE (envOf a) oi.dst v) w → wpAny P .any all.toArray Q' (scriptLen r) (listed.setIfInBounds i true) (a.put oi.dst v) w := fun v hv =>
        ih _ _ _ hc (hinv_step inv hk) (by rw [put_size]; exact hs) (by rw [put_defers]; exact hd) (by rw [envOf_put a oi.dst v hdst]; exact hv)
      show wpAny P .any all.toArray Q' (1 + scriptLen r) listed a w
      rw [Nat.add_comm 1]
      rcases opsQ_single h with ⟨hw, v, h1, h2⟩ | ⟨hw, h2⟩
      · refine wpAny_take hoi hsel hf hr (fun c a w h => absurd h (hP c _ _)) (.inl ⟨by rw [yieldE_envOf] at hw; exact hw, fun w' => ?_⟩) (next v h2)
        have := runQ_pure w' hp (h1 w')
        rw [evE_envOf] at this
        exact this
      · exact wpAny_take hoi hsel hf hr (fun c a w h => absurd h (hP c _ _)) (.inr ⟨by rw [yieldE_envOf] at hw; exact hw, rfl⟩) (next undef h2)
    | one i =>
      simp only [chk, Bool.and_eq_true, decide_eq_true_eq] at hc
      obtain ⟨hr, hc⟩ := hc
      have hk : i ∈ Region.ready .any all.toArray listed := by rw [hr]; simp
      obtain ⟨_, oi, hoi, _⟩ := mem_ready.1 hk
      have hoi' : all[i]? = some oi := by simpa using hoi
      simp only [opsPh, hoi', Option.toList] at h
      show wpAny P .any all.toArray Q' (1 + scriptLen r) listed a w
      rw [Nat.add_comm 1]
      refine wpAny_all hr (by simp) (fun j hj => ?_)
      have hji : j = i := by simpa using hj
      subst hji
      rw [← opsE_strip] at h
      refine wpOp_onlyN hoi (wpList_of_opsE (n := n) (K := fun ρ' w' => opsPh P all K r ρ' w') ?_ [oi] a w (by intro o ho; simp at ho; subst ho; exact hlt o (mem hoi')) hs hd h)
      intro a' w' h1 h2 h3
      exact ih _ _ _ hc (hinv_step inv hk) h1 h2 h3
    | still is =>
      simp only [chk, Bool.and_eq_true] at hc
      obtain ⟨hwt, hc⟩ := hc
      cases hg : groupLex .any all.toArray is listed with
      | none => rw [hg] at hc; cases hc
      | some l' =>
        rw [hg] at hc
        simp only [Bool.and_eq_true] at hc
        obtain ⟨hend, hc⟩ := hc
        have hwt' := waitsAll_spec inv hwt
        simp only [opsPh] at h
        have H := group_lex (P := P) (w := w) (md := .any) (Lq := fun a' => a'.tmps.size = n ∧ a'.defers = [] ∧ opsPh P all K r (envOf a') w) hsel hend is listed a (fun i hi => hi) hg inv hwt' (by
          simp only [List.getElem?_toArray]
          refine wpStill_of_opsQ (n := n) (fun a' h1 h2 h3 => ⟨h1, h2, h3⟩) _ a ?_ hs hd h
          intro o ho d hd'
          obtain ⟨i, _, hi⟩ := List.mem_filterMap.1 ho
          exact hlt o (mem hi) d hd')
        refine wpAny_of_head (g := scriptLen r) (fun l'' a' hL => ?_) is.length listed a H
        obtain ⟨rfl, h1, h2, h3⟩ := hL
        exact ih _ _ _ hc (groupLex_inv _ _ _ hg inv) h1 h2 h3
    | chain is js =>
      simp only [chk, Bool.and_eq_true] at hc
      obtain ⟨⟨hwt, hrd⟩, hc⟩ := hc
      cases hg : groupLex .any all.toArray is listed with
      | none => rw [hg] at hc; cases hc
      | some l' =>
        rw [hg] at hc
        simp only at hc
        cases hj : jsOk .any all.toArray js l' with
        | none => rw [hj] at hc; cases hc
        | some l2 =>
          rw [hj] at hc
          simp only [Bool.and_eq_true] at hc
          obtain ⟨hend, hc⟩ := hc
          have hwt' := waitsAll_spec inv hwt
          simp only [opsPh] at h
          obtain ⟨S, hS, h⟩ := h
          have inv' := groupLex_inv _ _ _ hg inv
          have inv2 := jsOk_inv _ _ _ hj inv'
          let L : Array Bool → Act → World → Prop := fun l'' a' w' => l'' = l2 ∧ a'.tmps.size = n ∧ a'.defers = [] ∧ opsPh P all K r (envOf a') w'
          have hdone : ∀ l'' a' w', L l'' a' w' → ∀ i ∈ Region.ready .any all.toArray l'', i ∉ is ++ js := by
            rintro l'' a' w' ⟨rfl, _⟩ i hi hin
            have := List.all_eq_true.1 hend i hin
            simp only [Bool.not_eq_true', List.contains_eq_mem, decide_eq_false_iff_not] at this
            exact this hi
          have keyJ : ∀ (js1 : List Nat) (l1 : Array Bool) (a1 : Act) (w1 : World), jsOk .any all.toArray js1 l1 = some l2 → HeadInv .any all.toArray all.toArray.size l1 → a1.tmps.size = n → a1.defers = [] →
              opsJs P all S (fun ρ'' w'' => opsPh P all K r ρ'' w'') js1 (envOf a1) w1 → wpAnyHL P .any all.toArray Q' S L js1.length l1 a1 w1 := by
            intro js1
            induction js1 with
            | nil =>
              intro l1 a1 w1 hl _ hs1 hd1 h1
              simp only [jsOk, Option.some.injEq] at hl
              subst hl
              exact ⟨rfl, hs1, hd1, h1⟩
            | cons j js1 ihj =>
              intro l1 a1 w1 hl inv1 hs1 hd1 h1
              unfold jsOk at hl
              split at hl
              · rename_i hr
                have hrj : Region.ready .any all.toArray l1 = [j] := by simpa using hr
                have hkj : j ∈ Region.ready .any all.toArray l1 := by rw [hrj]; simp
                obtain ⟨_, oj, hoj, _⟩ := mem_ready.1 hkj
                have hoj' : all[j]? = some oj := by simpa using hoj
                refine ⟨by rw [hrj]; simp, fun i hi => ?_⟩
                rw [hrj] at hi
                have hij : i = j := by simpa using hi
                subst hij
                simp only [opsJs, hoj', Option.toList] at h1
                rw [← opsE_strip] at h1
                refine wpOp_onlyN hoj (wpList_of_opsE (n := n) (K := fun ρ'' w'' => S w'' ∧ opsJs P all S (fun ρ'' w'' => opsPh P all K r ρ'' w'') js1 ρ'' w'') ?_ [oj] a1 w1 (by intro o ho; simp at ho; subst ho; exact hlt o (mem hoj')) hs1 hd1 h1)
                intro a' w' g1 g2 g3
                exact ⟨g3.1, ihj _ _ _ hl (hinv_step inv1 hkj) g1 g2 g3.2⟩
              · cases hl
          have key : ∀ (r1 : List Nat) (l1 : Array Bool) (a1 : Act), (∀ i ∈ r1, i ∈ is) → groupLex .any all.toArray r1 l1 = some l' → HeadInv .any all.toArray all.toArray.size l1 → WaitsAll .any all.toArray (is ++ js) l1 → a1.tmps.size = n → a1.defers = [] →
              opsQ P (fun i : { w : World // S w } => i.1) (fun ρ' => opsJs P all S (fun ρ'' w'' => opsPh P all K r ρ'' w'') js ρ' w) (strip all (r1.filterMap fun i => all[i]?)) (envOf a1) →
              wpAnyHL P .any all.toArray Q' S L (js.length + r1.length) l1 a1 w := by
            intro r1
            induction r1 with
            | nil =>
              intro l1 a1 _ hl inv1 _ hs1 hd1 h1
              simp only [groupLex, Option.some.injEq] at hl
              subst hl
              exact keyJ js _ a1 w hj inv1 hs1 hd1 h1
            | cons i r1 ih1 =>
              intro l1 a1 hin hl inv1 hw1 hs1 hd1 h1
              unfold groupLex at hl
              split at hl
              · rename_i hci
                simp only [Bool.and_eq_true] at hci
                have hk : i ∈ Region.ready .any all.toArray l1 := by simpa using hci.1
                obtain ⟨_, oi, hoi, _⟩ := mem_ready.1 hk
                have hoi' : all[i]? = some oi := by simpa using hoi
                have hri := List.all_eq_true.1 hrd i (hin i (by simp))
                unfold readOp at hri
                rw [hoi] at hri
                simp only [List.filterMap_cons, hoi'] at h1
                rw [show strip all (oi :: r1.filterMap fun i => all[i]?) = strip all [oi] ++ strip all (r1.filterMap fun i => all[i]?) by obtain ⟨d, op, t, p, af, g⟩ := oi; cases g <;> rfl, opsQ_append] at h1
                have hdst : ∀ d, oi.dst = some d → d < a1.tmps.size := fun d hd' => by rw [hs1]; exact hlt oi (mem hoi') d hd'
                have hfin := fun v hv => ih1 (l1.setIfInBounds i true) (a1.put oi.dst v) (fun k hk => hin k (by simp [hk])) hl (hinv_step inv1 hk) (hw1.step i) (by rw [put_size]; exact hs1) (by rw [put_defers]; exact hd1) (by rw [envOf_put a1 oi.dst v hdst]; exact hv)
                rcases opsQ_single h1 with ⟨hw, v, g1, g2⟩ | ⟨hw, g2⟩
                · refine heldL_first (is := is ++ js) hoi (Region.noSelect_spec hsel) hP (by simp [hin i (by simp)]) hdone (js.length + r1.length) l1 a1 w inv1 hw1 (Region.free_spec hoi hci.2) hk (.inl ⟨by rw [yieldE_envOf] at hw; exact hw, fun w' hw' => ?_⟩) hS (hfin v g2)
                  have := RunQ_read hri g1 w' hw'
                  rw [evE_envOf] at this
                  exact this
                · exact heldL_first (is := is ++ js) hoi (Region.noSelect_spec hsel) hP (by simp [hin i (by simp)]) hdone (js.length + r1.length) l1 a1 w inv1 hw1 (Region.free_spec hoi hci.2) hk (.inr ⟨by rw [yieldE_envOf] at hw; exact hw, rfl⟩) hS (hfin undef g2)
              · cases hl
          show wpAny P .any all.toArray Q' (is.length + js.length + scriptLen r) listed a w
          rw [Nat.add_comm is.length]
          refine wpAny_of_HL (g := scriptLen r) (fun l'' a' w' hL => ?_) (js.length + is.length) listed a w (key is listed a (fun i hi => hi) hg inv hwt' hs hd h)
          obtain ⟨rfl, h1, h2, h3⟩ := hL
          exact ih _ _ _ hc inv2 h1 h2 h3
/-- a region that draws its order: by a script -/
theorem draw_script {n id : Nat} {l : List Oper} {K : Env → World → Prop} {w : World} {ρ : Env} (ps : List Ph) (hm : P.follows .mixedOrders = true) (hB : (Region.noSelect l.toArray && chk .any l.toArray ps (Array.replicate l.toArray.size false) && decide (scriptLen ps = l.toArray.size)) = true) (hn : opsLt n l.toArray = true)
    (h : opsPh P l K ps ρ w.drew) : DrawE P n id l.toArray K ρ w := by
  intro a hs hd he
  subst he
  simp only [Bool.and_eq_true, decide_eq_true_eq] at hB
  refine wp_region_any hm ?_
  have := opsPh_sound (P := P) (Q' := fun e a' w' => a'.tmps.size = n ∧ a'.defers = [] ∧ thenE K (fun _ _ _ => False) e (envOf a') w') (opsLt_spec hn) hB.1.1 (fun a w g1 g2 g3 => ⟨g1, g2, g3⟩) (fun c a w h => h.2.2) ps _ a w.drew hB.1.2 (hinv_zero _ _) hs hd h
  rw [hB.2] at this
  exact this
theorem opsPh_nil {all : List Oper} {K : Env → World → Prop} {ρ : Env} {w : World} : opsPh P all K [] ρ w = K ρ w := (rfl)
def contP (P : Program) (all : List Oper) (K : Env → World → Prop) (r : List Ph) (w : World) (ρ : Env) : Prop := opsPh P all K r ρ w
theorem contP_app {all : List Oper} {K : Env → World → Prop} {r : List Ph} {ρ : Env} {w : World} : contP P all K r w ρ = opsPh P all K r ρ w := (rfl)
theorem opsPh_pure {all : List Oper} {K : Env → World → Prop} {r : List Ph} {ρ : Env} {w : World} (i : Nat) : opsPh P all K (.pure i :: r) ρ w = opsQ P (fun w : World => w) (contP P all K r w) (strip all ((all[i]?).toList)) ρ := (rfl)
theorem opsPh_one {all : List Oper} {K : Env → World → Prop} {r : List Ph} {ρ : Env} {w : World} (i : Nat) : opsPh P all K (.one i :: r) ρ w = opsS P (opsPh P all K r) (strip all ((all[i]?).toList)) ρ w := (rfl)
theorem opsPh_still {all : List Oper} {K : Env → World → Prop} {r : List Ph} {ρ : Env} {w : World} (is : List Nat) : opsPh P all K (.still is :: r) ρ w = opsQ P (fun _ : Unit => w) (contP P all K r w) (strip all (is.filterMap fun i => all[i]?)) ρ := (rfl)
theorem opsPh_chain {all : List Oper} {K : Env → World → Prop} {r : List Ph} {ρ : Env} {w : World} (is : List Nat) (js : List Nat) (S : World → Prop) (hS : S w)
    (h : opsQ P (fun i : { w : World // S w } => i.1) (fun ρ' => opsJs P all S (opsPh P all K r) js ρ' w) (strip all (is.filterMap fun i => all[i]?)) ρ) : opsPh P all K (.chain is js :: r) ρ w := ⟨S, hS, h⟩
def contJ (P : Program) (all : List Oper) (S : World → Prop) (K : Env → World → Prop) (r : List Nat) (ρ : Env) (w : World) : Prop := S w ∧ opsJs P all S K r ρ w
theorem opsJs_nil {all : List Oper} {S : World → Prop} {K : Env → World → Prop} {ρ : Env} {w : World} : opsJs P all S K [] ρ w = K ρ w := (rfl)
theorem opsJs_cons {all : List Oper} {S : World → Prop} {K : Env → World → Prop} {ρ : Env} {w : World} (j : Nat) (r : List Nat) : opsJs P all S K (j :: r) ρ w = opsS P (contJ P all S K r) (strip all ((all[j]?).toList)) ρ w := (rfl)
theorem contJ_app {all : List Oper} {S : World → Prop} {K : Env → World → Prop} {r : List Nat} {ρ : Env} {w : World} (h : S w) : contJ P all S K r ρ w = opsJs P all S K r ρ w := by unfold contJ; simp [h]
end
attribute [go_sem] opsJs_nil opsJs_cons
attribute [go_sem] opsPh_nil contP_app opsPh_pure opsPh_one opsPh_still
end Go.Eng.Ch
namespace Go.Proofs.YtinfdomlpbikaaaGreatDoor
open Go.Eng Go.Lib
set_option linter.unusedSimpArgs false
set_option linter.unusedVariables false
set_option maxRecDepth 100000
variable {w w0 : World}
end Go.Proofs.YtinfdomlpbikaaaGreatDoor
namespace Go.Proofs.YtinfdomlpbikaaaGreatDoor
open Go.Eng Go.Lib
set_option linter.unusedSimpArgs false
set_option linter.unusedVariables false
set_option maxRecDepth 100000
variable {w w0 : World}
set_option maxHeartbeats 1000000 in
theorem fileGetAsk6 {s : Value} {l : List UInt8} (hb : BytesAt w s l) (hl : l.length ≤ 1099511627776) : CallP Tryz.prog 85 #[.int .u16 6, s] w (fun r w' => Upd noB w w' ∧ AskRes w' w.heap.size r (askFf.get l)) := by
  obtain ⟨p, cap, rfl, hcap⟩ := hb.len
  refine call_den (args := [_, _]) Tryz.func85 rfl rfl (by simp [Tryz.ntmps85]) ?_
  simp [go_sem]
  refine CallP.mono (fileKnown_any _ _) ?_
  rintro r W ⟨rfl, hW⟩
  have hu : Upd noB w W := by rw [hW]; exact (by repeat (first | exact Upd.refl _ _ | refine Upd.alloc ?_ _ | refine Upd.drew ?_ | refine Upd.drewN ?_ _ | refine Upd.setB ?_ _ _ (fun h => absurd h (by omega))))
  have h0 : W.heap[w.heap.size]? = some (.cells zeroA.cells 34 (0, 0)) := by rw [hW, heap_alloc, if_pos rfl]
  clear hW
  simp [go_sem, known9]
  refine gen_call ?_
  intro W2 hW2
  have g := GS.start (T := 140) hb hl hu h0 hW2
  clear hW2 h0 hu
  generalize W.heap.size = b at *
  generalize w.heap.size = rb at *
  clear W
  revert W2
  intro W g
  refine CallP.mono (fileN8 g.rd) ?_
  rintro v W1 ⟨x1, rfl, p1, q1, u, st1, I, R1⟩
  replace g := g.read u I
  clear u I
  simp [go_sem, g.ask]
  refine gen_call ?_
  intro W2 hW2
  replace g := g.set _ hW2
  clear hW2
  refine CallP.mono (fileEnd g.rd) ?_
  have hne := g.rd.ne
  rintro v W1 ⟨rfl, u, stE, I⟩
  replace g := g.read u I
  clear u I
  have G := (askFf).of_rd (R1) hne
  by_cases hf : finE (st1) = 0
  · rw [if_pos hf] at G
    simp [go_sem, hf, g.ask, g.res]
    exact ⟨g.rd.u.setB _ _ (fun h => absurd h (by have := g.ne; omega)), by rw [G]; exact ⟨_, rfl, rfl, nilW _ _, nil_own _ _, nilL _ _⟩⟩
  · rw [if_neg hf] at G
    simp [go_sem, hf, g.ask, g.res]
    exact ⟨g.rd.u.setB _ _ (fun h => absurd h (by have := g.ne; omega)), by rw [G]; rfl⟩
set_option maxHeartbeats 1000000 in
theorem fileGetAsk7 {s : Value} {l : List UInt8} (hb : BytesAt w s l) (hl : l.length ≤ 1099511627776) : CallP Tryz.prog 85 #[.int .u16 7, s] w (fun r w' => Upd noB w w' ∧ AskRes w' w.heap.size r (askFf.get l)) := by
  obtain ⟨p, cap, rfl, hcap⟩ := hb.len
  refine call_den (args := [_, _]) Tryz.func85 rfl rfl (by simp [Tryz.ntmps85]) ?_
  simp [go_sem]
  refine CallP.mono (fileKnown_any _ _) ?_
  rintro r W ⟨rfl, hW⟩
  have hu : Upd noB w W := by rw [hW]; exact (by repeat (first | exact Upd.refl _ _ | refine Upd.alloc ?_ _ | refine Upd.drew ?_ | refine Upd.drewN ?_ _ | refine Upd.setB ?_ _ _ (fun h => absurd h (by omega))))
  have h0 : W.heap[w.heap.size]? = some (.cells zeroA.cells 34 (0, 0)) := by rw [hW, heap_alloc, if_pos rfl]
  clear hW
  simp [go_sem, known9]
  refine gen_call ?_
  intro W2 hW2
  have g := GS.start (T := 140) hb hl hu h0 hW2
  clear hW2 h0 hu
  generalize W.heap.size = b at *
  generalize w.heap.size = rb at *
  clear W
  revert W2
  intro W g
  refine CallP.mono (fileN8 g.rd) ?_
  rintro v W1 ⟨x1, rfl, p1, q1, u, st1, I, R1⟩
  replace g := g.read u I
  clear u I
  simp [go_sem, g.ask]
  refine gen_call ?_
  intro W2 hW2
  replace g := g.set _ hW2
  clear hW2
  refine CallP.mono (fileEnd g.rd) ?_
  have hne := g.rd.ne
  rintro v W1 ⟨rfl, u, stE, I⟩
  replace g := g.read u I
  clear u I
  have G := (askFf).of_rd (R1) hne
  by_cases hf : finE (st1) = 0
  · rw [if_pos hf] at G
    simp [go_sem, hf, g.ask, g.res]
    exact ⟨g.rd.u.setB _ _ (fun h => absurd h (by have := g.ne; omega)), by rw [G]; exact ⟨_, rfl, rfl, nilW _ _, nil_own _ _, nilL _ _⟩⟩
  · rw [if_neg hf] at G
    simp [go_sem, hf, g.ask, g.res]
    exact ⟨g.rd.u.setB _ _ (fun h => absurd h (by have := g.ne; omega)), by rw [G]; rfl⟩
set_option maxHeartbeats 1000000 in
theorem fileGetAsk8 {s : Value} {l : List UInt8} (hb : BytesAt w s l) (hl : l.length ≤ 1099511627776) : CallP Tryz.prog 85 #[.int .u16 8, s] w (fun r w' => Upd noB w w' ∧ AskRes w' w.heap.size r (askF8.get l)) := by
  obtain ⟨p, cap, rfl, hcap⟩ := hb.len
  refine call_den (args := [_, _]) Tryz.func85 rfl rfl (by simp [Tryz.ntmps85]) ?_
  simp [go_sem]
  refine CallP.mono (fileKnown_any _ _) ?_
  rintro r W ⟨rfl, hW⟩
  have hu : Upd noB w W := by rw [hW]; exact (by repeat (first | exact Upd.refl _ _ | refine Upd.alloc ?_ _ | refine Upd.drew ?_ | refine Upd.drewN ?_ _ | refine Upd.setB ?_ _ _ (fun h => absurd h (by omega))))
  have h0 : W.heap[w.heap.size]? = some (.cells zeroA.cells 34 (0, 0)) := by rw [hW, heap_alloc, if_pos rfl]
  clear hW
  simp [go_sem, known9]
  refine gen_call ?_
  intro W2 hW2
  have g := GS.start (T := 140) hb hl hu h0 hW2
  clear hW2 h0 hu
  generalize W.heap.size = b at *
  generalize w.heap.size = rb at *
  clear W
  revert W2
  intro W g
  refine CallP.mono (fileN8 g.rd) ?_
  rintro v W1 ⟨x1, rfl, p1, q1, u, st1, I, R1⟩
  replace g := g.read u I
  clear u I
  simp [go_sem, g.ask]
  refine gen_call ?_
  intro W2 hW2
  replace g := g.set _ hW2
  clear hW2
  refine CallP.mono (fileN8 g.rd) ?_
  rintro v W1 ⟨x2, rfl, p2, q2, u, st2, I, R2⟩
  replace g := g.read u I
  clear u I
  simp [go_sem, g.ask]
  refine gen_call ?_
  intro W2 hW2
  replace g := g.set _ hW2
  clear hW2
  refine CallP.mono (fileN4 g.rd) ?_
  rintro v W1 ⟨x3, rfl, p3, q3, u, st3, I, R3⟩
  replace g := g.read u I
  clear u I
  have c3 : IntKind.u32.wrap x3 = x3 := wrap32 p3 q3
  simp [go_sem, g.ask, c3]
  refine gen_call ?_
  intro W2 hW2
  replace g := g.set _ hW2
  clear hW2
  refine CallP.mono (fileEnd g.rd) ?_
  have hne := g.rd.ne
  rintro v W1 ⟨rfl, u, stE, I⟩
  replace g := g.read u I
  clear u I
  have G := (askF8).of_rd ((Rd.seq (D := fun _ => _) R1 (Rd.seq (D := fun _ => _) R2 R3))) hne
  by_cases hf : finE (st3) = 0
  · rw [if_pos hf] at G
    simp [go_sem, hf, g.ask, g.res]
    exact ⟨g.rd.u.setB _ _ (fun h => absurd h (by have := g.ne; omega)), by rw [G]; exact ⟨_, rfl, rfl, nilW _ _, nil_own _ _, nilL _ _⟩⟩
  · rw [if_neg hf] at G
    simp [go_sem, hf, g.ask, g.res]
    exact ⟨g.rd.u.setB _ _ (fun h => absurd h (by have := g.ne; omega)), by rw [G]; rfl⟩
set_option maxHeartbeats 1000000 in
theorem fileGetSay5 {s : Value} {l : List UInt8} (hb : BytesAt w s l) (hl : l.length ≤ 1099511627776) : CallP Tryz.prog 87 #[.int .u16 5, s] w (fun r w' => Upd noB w w' ∧ SayRes w' w.heap.size r (sayF5.get l)) := by
  obtain ⟨p, cap, rfl, hcap⟩ := hb.len
  refine call_den (args := [_, _]) Tryz.func87 rfl rfl (by simp [Tryz.ntmps87]) ?_
  simp [go_sem]
  refine CallP.mono (fileKnown_any _ _) ?_
  rintro r W ⟨rfl, hW⟩
  have hu : Upd noB w W := by rw [hW]; exact (by repeat (first | exact Upd.refl _ _ | refine Upd.alloc ?_ _ | refine Upd.drew ?_ | refine Upd.drewN ?_ _ | refine Upd.setB ?_ _ _ (fun h => absurd h (by omega))))
  have h0 : W.heap[w.heap.size]? = some (.cells zeroS.cells 39 (0, 0)) := by rw [hW, heap_alloc, if_pos rfl]
  clear hW
  simp [go_sem, known9]
  refine gen_call ?_
  intro W2 hW2
  have g := GZ.start (T := 140) hb hl hu h0 hW2
  clear hW2 h0 hu
  generalize W.heap.size = b at *
  generalize w.heap.size = rb at *
  clear W
  revert W2
  intro W g
  refine CallP.mono (fileN1 g.rd) ?_
  rintro v W1 ⟨x1, rfl, p1, q1, u, st1, I, R1⟩
  replace g := g.read u I
  clear u I
  have c1 : IntKind.u8.wrap x1 = x1 := wrap8 p1 q1
  simp [go_sem, g.ask, c1]
  refine gen_call ?_
  intro W2 hW2
  replace g := g.set _ hW2
  clear hW2
  refine CallP.mono (fileN1 g.rd) ?_
  rintro v W1 ⟨x2, rfl, p2, q2, u, st2, I, R2⟩
  replace g := g.read u I
  clear u I
  have c2 : IntKind.u8.wrap x2 = x2 := wrap8 p2 q2
  simp [go_sem, g.ask, c2]
  refine gen_call ?_
  intro W2 hW2
  replace g := g.set _ hW2
  clear hW2
  refine CallP.mono (fileSmall2 (m := 2) (e := 5) (by decide) g.rd) ?_
  rintro v W1 ⟨x3, rfl, p3, q3, u, st3, I, R3⟩
  replace g := g.read u I
  clear u I
  have c3 : IntKind.u16.wrap x3 = x3 := wrap16 p3 q3
  simp [go_sem, g.ask, c3]
  refine gen_call ?_
  intro W2 hW2
  replace g := g.set _ hW2
  clear hW2
  refine CallP.mono (fileN8 g.rd) ?_
  rintro v W1 ⟨x4, rfl, p4, q4, u, st4, I, R4⟩
  replace g := g.read u I
  clear u I
  simp [go_sem, g.ask]
  refine gen_call ?_
  intro W2 hW2
  replace g := g.set _ hW2
  clear hW2
  refine CallP.mono (fileN8 g.rd) ?_
  rintro v W1 ⟨x5, rfl, p5, q5, u, st5, I, R5⟩
  replace g := g.read u I
  clear u I
  simp [go_sem, g.ask]
  refine gen_call ?_
  intro W2 hW2
  replace g := g.set _ hW2
  clear hW2
  refine CallP.mono (fileSmall2 (m := 2) (e := 5) (by decide) g.rd) ?_
  rintro v W1 ⟨x6, rfl, p6, q6, u, st6, I, R6⟩
  replace g := g.read u I
  clear u I
  obtain ⟨y6, hy6⟩ : ∃ y, y = IntKind.u8.wrap x6 := ⟨_, rfl⟩
  replace R6 := most_as R6 (y := y6) (fun h => by rw [hy6]; exact wrap8 p6 (by omega))
  simp [go_sem, g.ask, ← hy6]
  refine gen_call ?_
  intro W2 hW2
  replace g := g.set _ hW2
  clear hW2
  refine CallP.mono (fileSmall2 (m := 0) (e := 5) (by decide) g.rd) ?_
  rintro v W1 ⟨x7, rfl, p7, q7, u, st7, I, R7⟩
  replace g := g.read u I
  clear u I
  simp [go_sem, g.ask]
  refine CallP.mono (fileEnd g.rd) ?_
  have hne := g.rd.ne
  rintro v W1 ⟨rfl, u, stE, I⟩
  replace g := g.read u I
  clear u I
  have G := (sayF5).of_rd ((Rd.seq (D := fun _ => _) R1 (Rd.seq (D := fun _ => _) R2 (Rd.seq (D := fun _ => _) R3 (Rd.seq (D := fun _ => _) R4 (Rd.seq (D := fun _ => _) R5 (Rd.seq (D := fun _ => _) R6 (zero_of R7)))))))) hne
  by_cases hf : finE (st7) = 0
  · rw [if_pos hf] at G
    simp [go_sem, hf, g.ask, g.res]
    exact ⟨g.rd.u.setB _ _ (fun h => absurd h (by have := g.ne; omega)), by rw [G]; exact ⟨_, rfl, rfl, nil_own _ _, nilE _ _⟩⟩
  · rw [if_neg hf] at G
    simp [go_sem, hf, g.ask, g.res]
    exact ⟨g.rd.u.setB _ _ (fun h => absurd h (by have := g.ne; omega)), by rw [G]; rfl⟩
set_option maxHeartbeats 1000000 in
theorem fileGetSay6 {s : Value} {l : List UInt8} (hb : BytesAt w s l) (hl : l.length ≤ 1099511627776) : CallP Tryz.prog 87 #[.int .u16 6, s] w (fun r w' => Upd noB w w' ∧ SayRes w' w.heap.size r (sayFz.get l)) := by
  obtain ⟨p, cap, rfl, hcap⟩ := hb.len
  refine call_den (args := [_, _]) Tryz.func87 rfl rfl (by simp [Tryz.ntmps87]) ?_
  simp [go_sem]
  refine CallP.mono (fileKnown_any _ _) ?_
  rintro r W ⟨rfl, hW⟩
  have hu : Upd noB w W := by rw [hW]; exact (by repeat (first | exact Upd.refl _ _ | refine Upd.alloc ?_ _ | refine Upd.drew ?_ | refine Upd.drewN ?_ _ | refine Upd.setB ?_ _ _ (fun h => absurd h (by omega))))
  have h0 : W.heap[w.heap.size]? = some (.cells zeroS.cells 39 (0, 0)) := by rw [hW, heap_alloc, if_pos rfl]
  clear hW
  simp [go_sem, known9]
  refine gen_call ?_
  intro W2 hW2
  have g := GZ.start (T := 140) hb hl hu h0 hW2
  clear hW2 h0 hu
  generalize W.heap.size = b at *
  generalize w.heap.size = rb at *
  clear W
  revert W2
  intro W g
  refine CallP.mono (fileSmall4 (m := 0) (e := 5) (by decide) g.rd) ?_
  rintro v W1 ⟨x1, rfl, p1, q1, u, st1, I, R1⟩
  replace g := g.read u I
  clear u I
  simp [go_sem, g.ask]
  refine CallP.mono (fileEnd g.rd) ?_
  have hne := g.rd.ne
  rintro v W1 ⟨rfl, u, stE, I⟩
  replace g := g.read u I
  clear u I
  have G := (sayFz).of_rd ((zero_of R1)) hne
  by_cases hf : finE (st1) = 0
  · rw [if_pos hf] at G
    simp [go_sem, hf, g.ask, g.res]
    exact ⟨g.rd.u.setB _ _ (fun h => absurd h (by have := g.ne; omega)), by rw [G]; exact ⟨_, rfl, rfl, nil_own _ _, nilE _ _⟩⟩
  · rw [if_neg hf] at G
    simp [go_sem, hf, g.ask, g.res]
    exact ⟨g.rd.u.setB _ _ (fun h => absurd h (by have := g.ne; omega)), by rw [G]; rfl⟩
set_option maxHeartbeats 1000000 in
theorem fileGetSay7 {s : Value} {l : List UInt8} (hb : BytesAt w s l) (hl : l.length ≤ 1099511627776) : CallP Tryz.prog 87 #[.int .u16 7, s] w (fun r w' => Upd noB w w' ∧ SayRes w' w.heap.size r (sayFz.get l)) := by
  obtain ⟨p, cap, rfl, hcap⟩ := hb.len
  refine call_den (args := [_, _]) Tryz.func87 rfl rfl (by simp [Tryz.ntmps87]) ?_
  simp [go_sem]
  refine CallP.mono (fileKnown_any _ _) ?_
  rintro r W ⟨rfl, hW⟩
  have hu : Upd noB w W := by rw [hW]; exact (by repeat (first | exact Upd.refl _ _ | refine Upd.alloc ?_ _ | refine Upd.drew ?_ | refine Upd.drewN ?_ _ | refine Upd.setB ?_ _ _ (fun h => absurd h (by omega))))
  have h0 : W.heap[w.heap.size]? = some (.cells zeroS.cells 39 (0, 0)) := by rw [hW, heap_alloc, if_pos rfl]
  clear hW
  simp [go_sem, known9]
  refine gen_call ?_
  intro W2 hW2
  have g := GZ.start (T := 140) hb hl hu h0 hW2
  clear hW2 h0 hu
  generalize W.heap.size = b at *
  generalize w.heap.size = rb at *
  clear W
  revert W2
  intro W g
  refine CallP.mono (fileSmall4 (m := 0) (e := 5) (by decide) g.rd) ?_
  rintro v W1 ⟨x1, rfl, p1, q1, u, st1, I, R1⟩
  replace g := g.read u I
  clear u I
  simp [go_sem, g.ask]
  refine CallP.mono (fileEnd g.rd) ?_
  have hne := g.rd.ne
  rintro v W1 ⟨rfl, u, stE, I⟩
  replace g := g.read u I
  clear u I
  have G := (sayFz).of_rd ((zero_of R1)) hne
  by_cases hf : finE (st1) = 0
  · rw [if_pos hf] at G
    simp [go_sem, hf, g.ask, g.res]
    exact ⟨g.rd.u.setB _ _ (fun h => absurd h (by have := g.ne; omega)), by rw [G]; exact ⟨_, rfl, rfl, nil_own _ _, nilE _ _⟩⟩
  · rw [if_neg hf] at G
    simp [go_sem, hf, g.ask, g.res]
    exact ⟨g.rd.u.setB _ _ (fun h => absurd h (by have := g.ne; omega)), by rw [G]; rfl⟩
set_option maxHeartbeats 1000000 in
theorem fileGetSay10 {s : Value} {l : List UInt8} (hb : BytesAt w s l) (hl : l.length ≤ 1099511627776) : CallP Tryz.prog 87 #[.int .u16 10, s] w (fun r w' => Upd noB w w' ∧ SayRes w' w.heap.size r (sayFz.get l)) := by
  obtain ⟨p, cap, rfl, hcap⟩ := hb.len
  refine call_den (args := [_, _]) Tryz.func87 rfl rfl (by simp [Tryz.ntmps87]) ?_
  simp [go_sem]
  refine CallP.mono (fileKnown_any _ _) ?_
  rintro r W ⟨rfl, hW⟩
  have hu : Upd noB w W := by rw [hW]; exact (by repeat (first | exact Upd.refl _ _ | refine Upd.alloc ?_ _ | refine Upd.drew ?_ | refine Upd.drewN ?_ _ | refine Upd.setB ?_ _ _ (fun h => absurd h (by omega))))
  have h0 : W.heap[w.heap.size]? = some (.cells zeroS.cells 39 (0, 0)) := by rw [hW, heap_alloc, if_pos rfl]
  clear hW
  simp [go_sem, known9]
  refine gen_call ?_
  intro W2 hW2
  have g := GZ.start (T := 140) hb hl hu h0 hW2
  clear hW2 h0 hu
  generalize W.heap.size = b at *
  generalize w.heap.size = rb at *
  clear W
  revert W2
  intro W g
  refine CallP.mono (fileSmall4 (m := 0) (e := 5) (by decide) g.rd) ?_
  rintro v W1 ⟨x1, rfl, p1, q1, u, st1, I, R1⟩
  replace g := g.read u I
  clear u I
  simp [go_sem, g.ask]
  refine CallP.mono (fileEnd g.rd) ?_
  have hne := g.rd.ne
  rintro v W1 ⟨rfl, u, stE, I⟩
  replace g := g.read u I
  clear u I
  have G := (sayFz).of_rd ((zero_of R1)) hne
  by_cases hf : finE (st1) = 0
  · rw [if_pos hf] at G
    simp [go_sem, hf, g.ask, g.res]
    exact ⟨g.rd.u.setB _ _ (fun h => absurd h (by have := g.ne; omega)), by rw [G]; exact ⟨_, rfl, rfl, nil_own _ _, nilE _ _⟩⟩
  · rw [if_neg hf] at G
    simp [go_sem, hf, g.ask, g.res]
    exact ⟨g.rd.u.setB _ _ (fun h => absurd h (by have := g.ne; omega)), by rw [G]; rfl⟩
set_option maxHeartbeats 1000000 in
theorem fileGetSay9 {s : Value} {l : List UInt8} (hb : BytesAt w s l) (hl : l.length ≤ 1099511627776) : CallP Tryz.prog 87 #[.int .u16 9, s] w (fun r w' => Upd noB w w' ∧ SayRes w' w.heap.size r (sayF9.get l)) := by
  obtain ⟨p, cap, rfl, hcap⟩ := hb.len
  refine call_den (args := [_, _]) Tryz.func87 rfl rfl (by simp [Tryz.ntmps87]) ?_
  simp [go_sem]
  refine CallP.mono (fileKnown_any _ _) ?_
  rintro r W ⟨rfl, hW⟩
  have hu : Upd noB w W := by rw [hW]; exact (by repeat (first | exact Upd.refl _ _ | refine Upd.alloc ?_ _ | refine Upd.drew ?_ | refine Upd.drewN ?_ _ | refine Upd.setB ?_ _ _ (fun h => absurd h (by omega))))
  have h0 : W.heap[w.heap.size]? = some (.cells zeroS.cells 39 (0, 0)) := by rw [hW, heap_alloc, if_pos rfl]
  clear hW
  simp [go_sem, known9]
  refine gen_call ?_
  intro W2 hW2
  have g := GZ.start (T := 140) hb hl hu h0 hW2
  clear hW2 h0 hu
  generalize W.heap.size = b at *
  generalize w.heap.size = rb at *
  clear W
  revert W2
  intro W g
  refine CallP.mono (fileN4 g.rd) ?_
  rintro v W1 ⟨x1, rfl, p1, q1, u, st1, I, R1⟩
  replace g := g.read u I
  clear u I
  have c1 : IntKind.u32.wrap x1 = x1 := wrap32 p1 q1
  simp [go_sem, g.ask, c1]
  refine gen_call ?_
  intro W2 hW2
  replace g := g.set _ hW2
  clear hW2
  refine CallP.mono (fileEnd g.rd) ?_
  have hne := g.rd.ne
  rintro v W1 ⟨rfl, u, stE, I⟩
  replace g := g.read u I
  clear u I
  have G := (sayF9).of_rd (R1) hne
  by_cases hf : finE (st1) = 0
  · rw [if_pos hf] at G
    simp [go_sem, hf, g.ask, g.res]
    exact ⟨g.rd.u.setB _ _ (fun h => absurd h (by have := g.ne; omega)), by rw [G]; exact ⟨_, rfl, rfl, nil_own _ _, nilE _ _⟩⟩
  · rw [if_neg hf] at G
    simp [go_sem, hf, g.ask, g.res]
    exact ⟨g.rd.u.setB _ _ (fun h => absurd h (by have := g.ne; omega)), by rw [G]; rfl⟩
end Go.Proofs.YtinfdomlpbikaaaGreatDoor
namespace Go.Proofs.YtinfdomlpbikaaaGreatDoor
open Go.Eng Go.Lib
set_option linter.unusedSimpArgs false
set_option linter.unusedVariables false
set_option maxRecDepth 100000
variable {w w0 : World}
end Go.Proofs.YtinfdomlpbikaaaGreatDoor
namespace Go.Proofs.YtinfdomlpbikaaaGreatDoor
open Go.Eng Go.Lib
set_option linter.unusedSimpArgs false
set_option linter.unusedVariables false
set_option maxRecDepth 100000
variable {w w0 : World}
set_option maxHeartbeats 1000000 in
theorem infoGetAsk12 {s : Value} {l : List UInt8} (hb : BytesAt w s l) (hl : l.length ≤ 1099511627776) : CallP Tryz.prog 89 #[.int .u16 12, s] w (fun r w' => Upd noB w w' ∧ AskRes w' w.heap.size r (askFz.get l)) := by
  obtain ⟨p, cap, rfl, hcap⟩ := hb.len
  refine call_den (args := [_, _]) Tryz.func89 rfl rfl (by simp [Tryz.ntmps89]) ?_
  simp [go_sem]
  refine CallP.mono (infoKnown_any _ _) ?_
  rintro r W ⟨rfl, hW⟩
  have hu : Upd noB w W := by rw [hW]; exact (by repeat (first | exact Upd.refl _ _ | refine Upd.alloc ?_ _ | refine Upd.drew ?_ | refine Upd.drewN ?_ _ | refine Upd.setB ?_ _ _ (fun h => absurd h (by omega))))
  have h0 : W.heap[w.heap.size]? = some (.cells zeroA.cells 34 (0, 0)) := by rw [hW, heap_alloc, if_pos rfl]
  clear hW
  simp [go_sem, known10]
  refine gen_call ?_
  intro W2 hW2
  have g := GS.start (T := 153) hb hl hu h0 hW2
  clear hW2 h0 hu
  generalize W.heap.size = b at *
  generalize w.heap.size = rb at *
  clear W
  revert W2
  intro W g
  refine CallP.mono (infoZero (k := 4) (by decide) g.rd) ?_
  rintro v W1 ⟨u, st1, I, R1⟩
  replace g := g.read u I
  clear u I
  simp [go_sem, g.ask]
  refine CallP.mono (infoEnd g.rd) ?_
  have hne := g.rd.ne
  rintro v W1 ⟨rfl, u, stE, I⟩
  replace g := g.read u I
  clear u I
  have G := (askFz).of_rd (R1) hne
  by_cases hf : finE (st1) = 0
  · rw [if_pos hf] at G
    simp [go_sem, hf, g.ask, g.res]
    exact ⟨g.rd.u.setB _ _ (fun h => absurd h (by have := g.ne; omega)), by rw [G]; exact ⟨_, rfl, rfl, nilW _ _, nil_own _ _, nilL _ _⟩⟩
  · rw [if_neg hf] at G
    simp [go_sem, hf, g.ask, g.res]
    exact ⟨g.rd.u.setB _ _ (fun h => absurd h (by have := g.ne; omega)), by rw [G]; rfl⟩
set_option maxHeartbeats 1000000 in
theorem infoGetAsk14 {s : Value} {l : List UInt8} (hb : BytesAt w s l) (hl : l.length ≤ 1099511627776) : CallP Tryz.prog 89 #[.int .u16 14, s] w (fun r w' => Upd noB w w' ∧ AskRes w' w.heap.size r (askF14.get l)) := by
  obtain ⟨p, cap, rfl, hcap⟩ := hb.len
  refine call_den (args := [_, _]) Tryz.func89 rfl rfl (by simp [Tryz.ntmps89]) ?_
  simp [go_sem]
  refine CallP.mono (infoKnown_any _ _) ?_
  rintro r W ⟨rfl, hW⟩
  have hu : Upd noB w W := by rw [hW]; exact (by repeat (first | exact Upd.refl _ _ | refine Upd.alloc ?_ _ | refine Upd.drew ?_ | refine Upd.drewN ?_ _ | refine Upd.setB ?_ _ _ (fun h => absurd h (by omega))))
  have h0 : W.heap[w.heap.size]? = some (.cells zeroA.cells 34 (0, 0)) := by rw [hW, heap_alloc, if_pos rfl]
  clear hW
  simp [go_sem, known10]
  refine gen_call ?_
  intro W2 hW2
  have g := GS.start (T := 153) hb hl hu h0 hW2
  clear hW2 h0 hu
  generalize W.heap.size = b at *
  generalize w.heap.size = rb at *
  clear W
  revert W2
  intro W g
  refine CallP.mono (infoN (k := 8) (by decide) g.rd) ?_
  rintro v W1 ⟨x1, rfl, p1, q1, u, st1, I, R1⟩
  replace g := g.read u I
  clear u I
  simp [go_sem, g.ask]
  refine gen_call ?_
  intro W2 hW2
  replace g := g.set _ hW2
  clear hW2
  refine CallP.mono (infoN (k := 2) (by decide) g.rd) ?_
  rintro v W1 ⟨x2, rfl, p2, q2, u, st2, I, R2⟩
  replace g := g.read u I
  clear u I
  have c2 : IntKind.u16.wrap x2 = x2 := wrap16 p2 q2
  simp [go_sem, g.ask, c2]
  refine gen_call ?_
  intro W2 hW2
  replace g := g.set _ hW2
  clear hW2
  refine CallP.mono (infoZero (k := 2) (by decide) g.rd) ?_
  rintro v W1 ⟨u, st3, I, R3⟩
  replace g := g.read u I
  clear u I
  simp [go_sem, g.ask]
  refine CallP.mono (infoText g.rd) ?_
  rintro v W1 ⟨x4, rfl, u, st4, I, R4⟩
  replace g := g.read u I
  clear u I
  simp [go_sem, g.ask]
  refine gen_call ?_
  intro W2 hW2
  replace g := g.set _ hW2
  clear hW2
  refine CallP.mono (infoText g.rd) ?_
  rintro v W1 ⟨x5, rfl, u, st5, I, R5⟩
  replace g := g.read u I
  clear u I
  simp [go_sem, g.ask]
  refine gen_call ?_
  intro W2 hW2
  replace g := g.set _ hW2
  clear hW2
  refine CallP.mono (infoEnd g.rd) ?_
  have hne := g.rd.ne
  rintro v W1 ⟨rfl, u, stE, I⟩
  replace g := g.read u I
  clear u I
  have G := (askF14).of_rd ((Rd.seq (D := fun _ => _) R1 (Rd.seq (D := fun _ => _) R2 (Rd.seq (D := fun _ => _) R3 (Rd.seq (D := fun _ => _) R4 R5))))) hne
  by_cases hf : finE (st5) = 0
  · rw [if_pos hf] at G
    simp [go_sem, hf, g.ask, g.res]
    exact ⟨g.rd.u.setB _ _ (fun h => absurd h (by have := g.ne; omega)), by rw [G]; exact ⟨_, rfl, rfl, nilW _ _, nil_own _ _, nilL _ _⟩⟩
  · rw [if_neg hf] at G
    simp [go_sem, hf, g.ask, g.res]
    exact ⟨g.rd.u.setB _ _ (fun h => absurd h (by have := g.ne; omega)), by rw [G]; rfl⟩
set_option maxHeartbeats 1000000 in
theorem infoGetAsk16 {s : Value} {l : List UInt8} (hb : BytesAt w s l) (hl : l.length ≤ 1099511627776) : CallP Tryz.prog 89 #[.int .u16 16, s] w (fun r w' => Upd noB w w' ∧ AskRes w' w.heap.size r (askFf.get l)) := by
  obtain ⟨p, cap, rfl, hcap⟩ := hb.len
  refine call_den (args := [_, _]) Tryz.func89 rfl rfl (by simp [Tryz.ntmps89]) ?_
  simp [go_sem]
  refine CallP.mono (infoKnown_any _ _) ?_
  rintro r W ⟨rfl, hW⟩
  have hu : Upd noB w W := by rw [hW]; exact (by repeat (first | exact Upd.refl _ _ | refine Upd.alloc ?_ _ | refine Upd.drew ?_ | refine Upd.drewN ?_ _ | refine Upd.setB ?_ _ _ (fun h => absurd h (by omega))))
  have h0 : W.heap[w.heap.size]? = some (.cells zeroA.cells 34 (0, 0)) := by rw [hW, heap_alloc, if_pos rfl]
  clear hW
  simp [go_sem, known10]
  refine gen_call ?_
  intro W2 hW2
  have g := GS.start (T := 153) hb hl hu h0 hW2
  clear hW2 h0 hu
  generalize W.heap.size = b at *
  generalize w.heap.size = rb at *
  clear W
  revert W2
  intro W g
  refine CallP.mono (infoN (k := 8) (by decide) g.rd) ?_
  rintro v W1 ⟨x1, rfl, p1, q1, u, st1, I, R1⟩
  replace g := g.read u I
  clear u I
  simp [go_sem, g.ask]
  refine gen_call ?_
  intro W2 hW2
  replace g := g.set _ hW2
  clear hW2
  refine CallP.mono (infoEnd g.rd) ?_
  have hne := g.rd.ne
  rintro v W1 ⟨rfl, u, stE, I⟩
  replace g := g.read u I
  clear u I
  have G := (askFf).of_rd (R1) hne
  by_cases hf : finE (st1) = 0
  · rw [if_pos hf] at G
    simp [go_sem, hf, g.ask, g.res]
    exact ⟨g.rd.u.setB _ _ (fun h => absurd h (by have := g.ne; omega)), by rw [G]; exact ⟨_, rfl, rfl, nilW _ _, nil_own _ _, nilL _ _⟩⟩
  · rw [if_neg hf] at G
    simp [go_sem, hf, g.ask, g.res]
    exact ⟨g.rd.u.setB _ _ (fun h => absurd h (by have := g.ne; omega)), by rw [G]; rfl⟩
set_option maxHeartbeats 1000000 in
theorem infoGetAsk18 {s : Value} {l : List UInt8} (hb : BytesAt w s l) (hl : l.length ≤ 1099511627776) : CallP Tryz.prog 89 #[.int .u16 18, s] w (fun r w' => Upd noB w w' ∧ AskRes w' w.heap.size r (askF18.get l)) := by
  obtain ⟨p, cap, rfl, hcap⟩ := hb.len
  refine call_den (args := [_, _]) Tryz.func89 rfl rfl (by simp [Tryz.ntmps89]) ?_
  simp [go_sem]
  refine CallP.mono (infoKnown_any _ _) ?_
  rintro r W ⟨rfl, hW⟩
  have hu : Upd noB w W := by rw [hW]; exact (by repeat (first | exact Upd.refl _ _ | refine Upd.alloc ?_ _ | refine Upd.drew ?_ | refine Upd.drewN ?_ _ | refine Upd.setB ?_ _ _ (fun h => absurd h (by omega))))
  have h0 : W.heap[w.heap.size]? = some (.cells zeroA.cells 34 (0, 0)) := by rw [hW, heap_alloc, if_pos rfl]
  clear hW
  simp [go_sem, known10]
  refine gen_call ?_
  intro W2 hW2
  have g := GS.start (T := 153) hb hl hu h0 hW2
  clear hW2 h0 hu
  generalize W.heap.size = b at *
  generalize w.heap.size = rb at *
  clear W
  revert W2
  intro W g
  refine CallP.mono (infoN (k := 8) (by decide) g.rd) ?_
  rintro v W1 ⟨x1, rfl, p1, q1, u, st1, I, R1⟩
  replace g := g.read u I
  clear u I
  simp [go_sem, g.ask]
  refine gen_call ?_
  intro W2 hW2
  replace g := g.set _ hW2
  clear hW2
  refine CallP.mono (infoN (k := 1) (by decide) g.rd) ?_
  rintro v W1 ⟨x2, rfl, p2, q2, u, st2, I, R2⟩
  replace g := g.read u I
  clear u I
  have c2 : IntKind.u8.wrap x2 = x2 := wrap8 p2 q2
  simp [go_sem, g.ask, c2]
  refine gen_call ?_
  intro W2 hW2
  replace g := g.set _ hW2
  clear hW2
  refine CallP.mono (infoZero (k := 1) (by decide) g.rd) ?_
  rintro v W1 ⟨u, st3, I, R3⟩
  replace g := g.read u I
  clear u I
  simp [go_sem, g.ask]
  refine CallP.mono (infoZero (k := 2) (by decide) g.rd) ?_
  rintro v W1 ⟨u, st4, I, R4⟩
  replace g := g.read u I
  clear u I
  simp [go_sem, g.ask]
  refine CallP.mono (infoEnd g.rd) ?_
  have hne := g.rd.ne
  rintro v W1 ⟨rfl, u, stE, I⟩
  replace g := g.read u I
  clear u I
  have G := (askF18).of_rd ((Rd.seq (D := fun _ => _) R1 (Rd.seq (D := fun _ => _) R2 (Rd.seq (D := fun _ => _) R3 R4)))) hne
  by_cases hf : finE (st4) = 0
  · rw [if_pos hf] at G
    simp [go_sem, hf, g.ask, g.res]
    exact ⟨g.rd.u.setB _ _ (fun h => absurd h (by have := g.ne; omega)), by rw [G]; exact ⟨_, rfl, rfl, nilW _ _, nil_own _ _, nilL _ _⟩⟩
  · rw [if_neg hf] at G
    simp [go_sem, hf, g.ask, g.res]
    exact ⟨g.rd.u.setB _ _ (fun h => absurd h (by have := g.ne; omega)), by rw [G]; rfl⟩
set_option maxHeartbeats 1000000 in
theorem infoGetSay17 {s : Value} {l : List UInt8} (hb : BytesAt w s l) (hl : l.length ≤ 1099511627776) : CallP Tryz.prog 91 #[.int .u16 17, s] w (fun r w' => Upd noB w w' ∧ SayRes w' w.heap.size r (sayFz.get l)) := by
  obtain ⟨p, cap, rfl, hcap⟩ := hb.len
  refine call_den (args := [_, _]) Tryz.func91 rfl rfl (by simp [Tryz.ntmps91]) ?_
  simp [go_sem]
  refine CallP.mono (infoKnown_any _ _) ?_
  rintro r W ⟨rfl, hW⟩
  have hu : Upd noB w W := by rw [hW]; exact (by repeat (first | exact Upd.refl _ _ | refine Upd.alloc ?_ _ | refine Upd.drew ?_ | refine Upd.drewN ?_ _ | refine Upd.setB ?_ _ _ (fun h => absurd h (by omega))))
  have h0 : W.heap[w.heap.size]? = some (.cells zeroS.cells 39 (0, 0)) := by rw [hW, heap_alloc, if_pos rfl]
  clear hW
  simp [go_sem, known10]
  refine gen_call ?_
  intro W2 hW2
  have g := GZ.start (T := 153) hb hl hu h0 hW2
  clear hW2 h0 hu
  generalize W.heap.size = b at *
  generalize w.heap.size = rb at *
  clear W
  revert W2
  intro W g
  refine CallP.mono (infoZero (k := 4) (by decide) g.rd) ?_
  rintro v W1 ⟨u, st1, I, R1⟩
  replace g := g.read u I
  clear u I
  simp [go_sem, g.ask]
  refine CallP.mono (infoEnd g.rd) ?_
  have hne := g.rd.ne
  rintro v W1 ⟨rfl, u, stE, I⟩
  replace g := g.read u I
  clear u I
  have G := (sayFz).of_rd (R1) hne
  by_cases hf : finE (st1) = 0
  · rw [if_pos hf] at G
    simp [go_sem, hf, g.ask, g.res]
    exact ⟨g.rd.u.setB _ _ (fun h => absurd h (by have := g.ne; omega)), by rw [G]; exact ⟨_, rfl, rfl, nil_own _ _, nilE _ _⟩⟩
  · rw [if_neg hf] at G
    simp [go_sem, hf, g.ask, g.res]
    exact ⟨g.rd.u.setB _ _ (fun h => absurd h (by have := g.ne; omega)), by rw [G]; rfl⟩
set_option maxHeartbeats 1000000 in
theorem infoGetSay16 {s : Value} {l : List UInt8} (hb : BytesAt w s l) (hl : l.length ≤ 1099511627776) : CallP Tryz.prog 91 #[.int .u16 16, s] w (fun r w' => Upd noB w w' ∧ SayRes w' w.heap.size r (sayF16.get l)) := by
  obtain ⟨p, cap, rfl, hcap⟩ := hb.len
  refine call_den (args := [_, _]) Tryz.func91 rfl rfl (by simp [Tryz.ntmps91]) ?_
  simp [go_sem]
  refine CallP.mono (infoKnown_any _ _) ?_
  rintro r W ⟨rfl, hW⟩
  have hu : Upd noB w W := by rw [hW]; exact (by repeat (first | exact Upd.refl _ _ | refine Upd.alloc ?_ _ | refine Upd.drew ?_ | refine Upd.drewN ?_ _ | refine Upd.setB ?_ _ _ (fun h => absurd h (by omega))))
  have h0 : W.heap[w.heap.size]? = some (.cells zeroS.cells 39 (0, 0)) := by rw [hW, heap_alloc, if_pos rfl]
  clear hW
  simp [go_sem, known10]
  refine gen_call ?_
  intro W2 hW2
  have g := GZ.start (T := 153) hb hl hu h0 hW2
  clear hW2 h0 hu
  generalize W.heap.size = b at *
  generalize w.heap.size = rb at *
  clear W
  revert W2
  intro W g
  refine CallP.mono (infoN (k := 8) (by decide) g.rd) ?_
  rintro v W1 ⟨x1, rfl, p1, q1, u, st1, I, R1⟩
  replace g := g.read u I
  clear u I
  simp [go_sem, g.ask]
  refine gen_call ?_
  intro W2 hW2
  replace g := g.set _ hW2
  clear hW2
  refine CallP.mono (infoMost (k := 2) (by decide) (m := 2) (e := 5) (by decide) g.rd) ?_
  rintro v W1 ⟨x2, rfl, p2, q2, u, st2, I, R2⟩
  replace g := g.read u I
  clear u I
  obtain ⟨y2, hy2⟩ : ∃ y, y = IntKind.u8.wrap x2 := ⟨_, rfl⟩
  replace R2 := most_as R2 (y := y2) (fun h => by rw [hy2]; exact wrap8 p2 (by omega))
  simp [go_sem, g.ask, ← hy2]
  refine gen_call ?_
  intro W2 hW2
  replace g := g.set _ hW2
  clear hW2
  refine CallP.mono (infoTruth g.rd) ?_
  rintro v W1 ⟨x3, rfl, u, st3, I, R3⟩
  replace g := g.read u I
  clear u I
  simp [go_sem, g.ask]
  refine gen_call ?_
  intro W2 hW2
  replace g := g.set _ hW2
  clear hW2
  refine CallP.mono (infoEnd g.rd) ?_
  have hne := g.rd.ne
  rintro v W1 ⟨rfl, u, stE, I⟩
  replace g := g.read u I
  clear u I
  have G := (sayF16).of_rd ((Rd.seq (D := fun _ => _) R1 (Rd.seq (D := fun _ => _) R2 R3))) hne
  by_cases hf : finE (st3) = 0
  · rw [if_pos hf] at G
    simp [go_sem, hf, g.ask, g.res]
    exact ⟨g.rd.u.setB _ _ (fun h => absurd h (by have := g.ne; omega)), by rw [G]; exact ⟨_, rfl, rfl, nil_own _ _, nilE _ _⟩⟩
  · rw [if_neg hf] at G
    simp [go_sem, hf, g.ask, g.res]
    exact ⟨g.rd.u.setB _ _ (fun h => absurd h (by have := g.ne; omega)), by rw [G]; rfl⟩
set_option maxHeartbeats 1000000 in
theorem infoGetSay18 {s : Value} {l : List UInt8} (hb : BytesAt w s l) (hl : l.length ≤ 1099511627776) : CallP Tryz.prog 91 #[.int .u16 18, s] w (fun r w' => Upd noB w w' ∧ SayRes w' w.heap.size r (sayF18.get l)) := by
  obtain ⟨p, cap, rfl, hcap⟩ := hb.len
  refine call_den (args := [_, _]) Tryz.func91 rfl rfl (by simp [Tryz.ntmps91]) ?_
  simp [go_sem]
  refine CallP.mono (infoKnown_any _ _) ?_
  rintro r W ⟨rfl, hW⟩
  have hu : Upd noB w W := by rw [hW]; exact (by repeat (first | exact Upd.refl _ _ | refine Upd.alloc ?_ _ | refine Upd.drew ?_ | refine Upd.drewN ?_ _ | refine Upd.setB ?_ _ _ (fun h => absurd h (by omega))))
  have h0 : W.heap[w.heap.size]? = some (.cells zeroS.cells 39 (0, 0)) := by rw [hW, heap_alloc, if_pos rfl]
  clear hW
  simp [go_sem, known10]
  refine gen_call ?_
  intro W2 hW2
  have g := GZ.start (T := 153) hb hl hu h0 hW2
  clear hW2 h0 hu
  generalize W.heap.size = b at *
  generalize w.heap.size = rb at *
  clear W
  revert W2
  intro W g
  refine CallP.mono (infoN (k := 8) (by decide) g.rd) ?_
  rintro v W1 ⟨x1, rfl, p1, q1, u, st1, I, R1⟩
  replace g := g.read u I
  clear u I
  simp [go_sem, g.ask]
  refine gen_call ?_
  intro W2 hW2
  replace g := g.set _ hW2
  clear hW2
  refine CallP.mono (infoN (k := 1) (by decide) g.rd) ?_
  rintro v W1 ⟨x2, rfl, p2, q2, u, st2, I, R2⟩
  replace g := g.read u I
  clear u I
  have c2 : IntKind.u8.wrap x2 = x2 := wrap8 p2 q2
  simp [go_sem, g.ask, c2]
  refine gen_call ?_
  intro W2 hW2
  replace g := g.set _ hW2
  clear hW2
  refine CallP.mono (infoZero (k := 1) (by decide) g.rd) ?_
  rintro v W1 ⟨u, st3, I, R3⟩
  replace g := g.read u I
  clear u I
  simp [go_sem, g.ask]
  refine CallP.mono (infoZero (k := 2) (by decide) g.rd) ?_
  rintro v W1 ⟨u, st4, I, R4⟩
  replace g := g.read u I
  clear u I
  simp [go_sem, g.ask]
  refine CallP.mono (infoEnd g.rd) ?_
  have hne := g.rd.ne
  rintro v W1 ⟨rfl, u, stE, I⟩
  replace g := g.read u I
  clear u I
  have G := (sayF18).of_rd ((Rd.seq (D := fun _ => _) R1 (Rd.seq (D := fun _ => _) R2 (Rd.seq (D := fun _ => _) R3 R4)))) hne
  by_cases hf : finE (st4) = 0
  · rw [if_pos hf] at G
    simp [go_sem, hf, g.ask, g.res]
    exact ⟨g.rd.u.setB _ _ (fun h => absurd h (by have := g.ne; omega)), by rw [G]; exact ⟨_, rfl, rfl, nil_own _ _, nilE _ _⟩⟩
  · rw [if_neg hf] at G
    simp [go_sem, hf, g.ask, g.res]
    exact ⟨g.rd.u.setB _ _ (fun h => absurd h (by have := g.ne; omega)), by rw [G]; rfl⟩
end Go.Proofs.YtinfdomlpbikaaaGreatDoor
namespace Go.Proofs.YtinfdomlpbikaaaGreatDoor
open Go.Eng Go.Lib
set_option linter.unusedSimpArgs false
set_option linter.unusedVariables false
set_option maxRecDepth 100000
variable {w w0 : World}
theorem own_above {W W' : World} {n0 n size : Nat} {e : TypeId} {v : Value} {xs : List Value} {S : Nat → Prop} (own : W.ownsX n0 e size v n xs) (u : Upd S W W') (hS : ∀ i, S i → i < n0) : W'.ownsX n0 e size v n xs :=
  own_keep own u (fun b hb hs => by have := (own.lt b hb).1; have := hS b hs; omega)
section
variable {W W' : World} {rb b ba : Nat} {T : TypeId} {p : Option Addr} {cap : Nat} {l : List UInt8} {st st' : Except Int (List UInt8)}
theorem GS.lt {A : AskV} (g : GS w W rb b ba T p cap l st A) : b < W.heap.size ∧ ba < W.heap.size ∧ rb < W.heap.size ∧ w.heap.size ≤ W.heap.size := by
  obtain ⟨a, e, h, _⟩ := g.rd.cell
  exact ⟨(Array.getElem?_eq_some_iff.1 h).1, (Array.getElem?_eq_some_iff.1 g.ask).1, (Array.getElem?_eq_some_iff.1 g.res).1, g.rd.u.size⟩
theorem GZ.lt {A : SayV} (g : GZ w W rb b ba T p cap l st A) : b < W.heap.size ∧ ba < W.heap.size ∧ rb < W.heap.size ∧ w.heap.size ≤ W.heap.size := by
  obtain ⟨a, e, h, _⟩ := g.rd.cell
  exact ⟨(Array.getElem?_eq_some_iff.1 h).1, (Array.getElem?_eq_some_iff.1 g.ask).1, (Array.getElem?_eq_some_iff.1 g.res).1, g.rd.u.size⟩
end
set_option maxHeartbeats 1000000 in
theorem fileGetAsk9 {s : Value} {l : List UInt8} (hb : BytesAt w s l) (hl : l.length ≤ 1099511627776) : CallP Tryz.prog 85 #[.int .u16 9, s] w (fun r w' => Upd noB w w' ∧ AskRes w' w.heap.size r (askF9.get l)) := by
  obtain ⟨p, cap, rfl, hcap⟩ := hb.len
  refine call_den (args := [_, _]) Tryz.func85 rfl rfl (by simp [Tryz.ntmps85]) ?_
  simp [go_sem]
  refine CallP.mono (fileKnown_any _ _) ?_
  rintro r W ⟨rfl, hW⟩
  have hu : Upd noB w W := by rw [hW]; exact (by repeat (first | exact Upd.refl _ _ | refine Upd.alloc ?_ _ | refine Upd.drew ?_ | refine Upd.drewN ?_ _ | refine Upd.setB ?_ _ _ (fun h => absurd h (by omega))))
  have h0 : W.heap[w.heap.size]? = some (.cells zeroA.cells 34 (0, 0)) := by rw [hW, heap_alloc, if_pos rfl]
  clear hW
  simp [go_sem, known9]
  refine gen_call ?_
  intro W2 hW2
  have g := GS.start (T := 140) hb hl hu h0 hW2
  have hrbl : w.heap.size ≤ W.heap.size := hu.size
  have hrbe : w.heap.size ≤ w.heap.size := Nat.le_refl _
  clear hW2 h0 hu
  generalize W.heap.size = b at *
  generalize w.heap.size = rb at *
  clear W
  revert W2
  intro W g
  refine CallP.mono (fileN8 g.rd) ?_
  rintro v W1 ⟨x1, rfl, p1, q1, u, st1, I, R1⟩
  replace g := g.read u I
  clear u I
  simp [go_sem, g.ask]
  refine gen_call ?_
  intro W2 hW2
  replace g := g.set _ hW2
  clear hW2
  refine CallP.mono (fileN8 g.rd) ?_
  rintro v W1 ⟨x2, rfl, p2, q2, u, st2, I, R2⟩
  replace g := g.read u I
  clear u I
  simp [go_sem, g.ask]
  refine gen_call ?_
  intro W2 hW2
  replace g := g.set _ hW2
  clear hW2
  have lt := g.lt
  obtain ⟨n0, hn0⟩ : ∃ n0, n0 = W2.heap.size := ⟨_, rfl⟩
  rw [← hn0] at lt
  refine CallP.mono (fileData g.rd) ?_
  rintro v W1 ⟨x3, L3, own, u, st3, I, R3⟩
  rw [← hn0] at own
  replace g := g.read u I
  clear u I
  obtain ⟨pd, cd, rfl, hcd⟩ := own.at.len
  simp [go_sem, g.ask]
  refine gen_call ?_
  intro W2 hW2
  replace own := own_above own (by rw [hW2]; exact Upd.setB (Upd.refl (fun x => x = b + 1) _) _ _ (fun _ => rfl) : Upd (fun x => x = b + 1) W1 W2) (fun i h => by subst h; exact lt.2.1)
  replace g := g.set _ hW2
  clear hW2
  refine CallP.mono (fileEnd g.rd) ?_
  have hne := g.rd.ne
  rintro v W1 ⟨rfl, u, stE, I⟩
  replace own := own_above own u (fun i h => by subst h; exact lt.1)
  replace g := g.read u I
  clear u I
  have G := (askF9).of_rd (Rd.seq (D := fun _ => _) R1 (Rd.seq (D := fun _ => _) R2 R3)) hne
  by_cases hf : finE (st3) = 0
  · rw [if_pos hf] at G
    simp [go_sem, hf, g.ask, g.res]
    refine ⟨g.rd.u.setB _ _ (fun h => absurd h (by have := g.ne; omega)), ?_⟩
    rw [G]
    refine ⟨_, rfl, rfl, nilW _ _, own_base (own_above own (Upd.setB (Upd.refl (fun x => x = rb) _) _ _ (fun _ => rfl)) (fun i h => by subst h; exact lt.2.2.1)) (Nat.le_of_lt lt.2.2.1), nilL _ _⟩
  · rw [if_neg hf] at G
    simp [go_sem, hf, g.ask, g.res]
    exact ⟨g.rd.u.setB _ _ (fun h => absurd h (by have := g.ne; omega)), by rw [G]; rfl⟩
set_option maxHeartbeats 1000000 in
theorem fileGetSay8 {s : Value} {l : List UInt8} (hb : BytesAt w s l) (hl : l.length ≤ 1099511627776) : CallP Tryz.prog 87 #[.int .u16 8, s] w (fun r w' => Upd noB w w' ∧ SayRes w' w.heap.size r (sayF8.get l)) := by
  obtain ⟨p, cap, rfl, hcap⟩ := hb.len
  refine call_den (args := [_, _]) Tryz.func87 rfl rfl (by simp [Tryz.ntmps87]) ?_
  simp [go_sem]
  refine CallP.mono (fileKnown_any _ _) ?_
  rintro r W ⟨rfl, hW⟩
  have hu : Upd noB w W := by rw [hW]; exact (by repeat (first | exact Upd.refl _ _ | refine Upd.alloc ?_ _ | refine Upd.drew ?_ | refine Upd.drewN ?_ _ | refine Upd.setB ?_ _ _ (fun h => absurd h (by omega))))
  have h0 : W.heap[w.heap.size]? = some (.cells zeroS.cells 39 (0, 0)) := by rw [hW, heap_alloc, if_pos rfl]
  clear hW
  simp [go_sem, known9]
  refine gen_call ?_
  intro W2 hW2
  have g := GZ.start (T := 140) hb hl hu h0 hW2
  clear hW2 h0 hu
  generalize W.heap.size = b at *
  generalize w.heap.size = rb at *
  clear W
  revert W2
  intro W g
  have lt := g.lt
  obtain ⟨n0, hn0⟩ : ∃ n0, n0 = W.heap.size := ⟨_, rfl⟩
  rw [← hn0] at lt
  refine CallP.mono (fileData g.rd) ?_
  rintro v W1 ⟨x3, L3, own, u, st3, I, R3⟩
  rw [← hn0] at own
  replace g := g.read u I
  clear u I
  obtain ⟨pd, cd, rfl, hcd⟩ := own.at.len
  simp [go_sem, g.ask]
  refine gen_call ?_
  intro W2 hW2
  replace own := own_above own (by rw [hW2]; exact Upd.setB (Upd.refl (fun x => x = b + 1) _) _ _ (fun _ => rfl) : Upd (fun x => x = b + 1) W1 W2) (fun i h => by subst h; exact lt.2.1)
  replace g := g.set _ hW2
  clear hW2
  refine CallP.mono (fileEnd g.rd) ?_
  have hne := g.rd.ne
  rintro v W1 ⟨rfl, u, stE, I⟩
  replace own := own_above own u (fun i h => by subst h; exact lt.1)
  replace g := g.read u I
  clear u I
  have G := (sayF8).of_rd (R3) hne
  by_cases hf : finE (st3) = 0
  · rw [if_pos hf] at G
    simp [go_sem, hf, g.ask, g.res]
    refine ⟨g.rd.u.setB _ _ (fun h => absurd h (by have := g.ne; omega)), ?_⟩
    rw [G]
    refine ⟨_, rfl, rfl, own_base (own_above own (Upd.setB (Upd.refl (fun x => x = rb) _) _ _ (fun _ => rfl)) (fun i h => by subst h; exact lt.2.2.1)) (Nat.le_of_lt lt.2.2.1), nilE _ _⟩
  · rw [if_neg hf] at G
    simp [go_sem, hf, g.ask, g.res]
    exact ⟨g.rd.u.setB _ _ (fun h => absurd h (by have := g.ne; omega)), by rw [G]; rfl⟩
end Go.Proofs.YtinfdomlpbikaaaGreatDoor
namespace Go.Proofs.YtinfdomlpbikaaaGreatDoor
open Go.Eng Go.Lib
set_option linter.unusedSimpArgs false
set_option linter.unusedVariables false
set_option maxRecDepth 100000
variable {w w0 : World}
/-! ### a byte of a set length's -/
end Go.Proofs.YtinfdomlpbikaaaGreatDoor
namespace Go.Proofs.YtinfdomlpbikaaaGreatDoor
open Go.Eng Go.Lib
set_option linter.unusedSimpArgs false
set_option linter.unusedVariables false
set_option maxRecDepth 100000
variable {w w0 : World}
theorem slU16 : SlT Tryz.prog 29 22 1 2 :=
  SlT.mk' Tryz.underlying29 (i := Tryz.t22) (z := .int .u16 0) (by kernel_rfl) (by kernel_rfl) (by kernel_rfl) (by kernel_rfl) rfl (by decide)
theorem slLock : SlT Tryz.prog 32 110 4 32 :=
  SlT.mk' Tryz.underlying32 (i := Tryz.t110) (z := .agg #[.int .i64 0, .int .u64 0, .int .u64 0, .int .u16 0]) (by kernel_rfl) (by kernel_rfl) (by kernel_rfl) (by kernel_rfl) rfl (by decide)
theorem slEnt : SlT Tryz.prog 37 114 3 32 :=
  SlT.mk' Tryz.underlying37 (i := Tryz.t114) (z := .agg #[.string ⟨#[]⟩, .int .u8 0, .int .i64 0]) (by kernel_rfl) (by kernel_rfl) (by kernel_rfl) (by kernel_rfl) rfl (by decide)
/-- one thing more, of so many cells; nothing below the base turns -/
theorem sl_pushR {P : Program} {t e : TypeId} {size bytes : Nat} (T : SlT P t e size bytes) {w : World} {base : Nat} {v : Value} {n : Nat} {xs : List Value} (own : w.ownsX base e size v n xs) (row : List Value) (hrow : row.length = size) (h1 : ∀ u ∈ row, u.oneCell' = true) (ty : TypeId)
    (hroom : (n + 1) * bytes ≤ 140737488355328) (hmax : n + 1 ≤ maxLen) (hbase : base ≤ w.heap.size) (h8 : e = 5 → ∀ u ∈ row, IsU8 u := by first | exact fun h => absurd h (by decide) | exact fun _ => u8_is _) :
    ∃ v' w', (Builtin.append_ #[t, t] ty #[v, .slice (some ⟨w.heap.size, 0, none⟩) 1 1]).run P (w.alloc (.cells row.toArray e)) = .ok v' w' ∧ w'.ownsX base e size v' (n + 1) (xs ++ row) ∧ Upd (fun i => base ≤ i) w w' := by
  have ua : Upd noB w (w.alloc (.cells row.toArray e)) := (Upd.refl _ _).alloc _
  have own1 := own_keep0 own ua
  have src : RowAt (w.alloc (.cells row.toArray e)) size (.slice (some ⟨w.heap.size, 0, none⟩) 1 1) 1 row :=
    ⟨by simp [hrow], Or.inr ⟨w.heap.size, 0, 1, _, _, _, rfl, by rw [heap_alloc, if_pos rfl], by simp [hrow], by simp [List.take_of_length_le, hrow]⟩⟩
  obtain ⟨v', w', g1, g2, g3⟩ := T.append_row own1 src ty h1 hroom hmax (by simp; omega) h8
  exact ⟨v', w', g1, g2, (ua.mono (fun _ _ h => h.elim)).grown g3 (fun k hk _ => (own1.lt k hk).1)⟩
section
variable {W W' : World} {rb b ba : Nat} {T : TypeId} {p : Option Addr} {cap : Nat} {l : List UInt8} {st st' : Except Int (List UInt8)}
theorem GS.keepN {A : AskV} {n0 : Nat} (g : GS w W rb b ba T p cap l st A) (lt : b < n0 ∧ ba < n0 ∧ rb < n0 ∧ w.heap.size ≤ n0) (u : Upd (fun i => n0 ≤ i) W W') : GS w W' rb b ba T p cap l st A :=
  ⟨g.rd.keep u (by omega) (fun i h => by omega), u.get g.ask (by omega), u.get g.res (by omega), g.ne⟩
theorem GZ.keepN {A : SayV} {n0 : Nat} (g : GZ w W rb b ba T p cap l st A) (lt : b < n0 ∧ ba < n0 ∧ rb < n0 ∧ w.heap.size ≤ n0) (u : Upd (fun i => n0 ≤ i) W W') : GZ w W' rb b ba T p cap l st A :=
  ⟨g.rd.keep u (by omega) (fun i h => by omega), u.get g.ask (by omega), u.get g.res (by omega), g.ne⟩
end
def AskS0 (ba : Nat) (A : AskV) (W : World) : Prop := W.heap[ba]? = some (.cells A.cells 34 (0, 0))
theorem ask0_of {n : Nat} {st st1 st2 st3 : Except Int (List UInt8)} {L : List Int} {X : Arr 16} (R1 : Rd (mostC 2 16 3) st st1 (n : Int)) (RD : Rd (listC (numC 2) n) st1 st2 L) (RA : Rd (arrC 16) st2 st3 X) : Rd askF0.C st st3 ((n : Int), L, X) := by
  have h := Rd.seq (C := mostC 2 16 3) (D := fun n => seqC (listC (numC 2) n.toNat) fun _ => arrC 16) (b := (L, X)) R1 (Rd.seq (D := fun _ => arrC 16) RD RA)
  exact h
end Go.Proofs.YtinfdomlpbikaaaGreatDoor
namespace Go.Proofs.YtinfdomlpbikaaaGreatDoor
open Go.Eng Go.Lib
set_option linter.unusedSimpArgs false
set_option linter.unusedVariables false
set_option maxRecDepth 100000
variable {w w0 : World}
def LkAt (bl : Nat) (xs : Array Value) (W : World) : Prop := W.heap[bl]? = some (.cells xs 110 (0, 0))
theorem LkAt.keep {bl : Nat} {xs : Array Value} {S : Nat → Prop} {W W' : World} (h : LkAt bl xs W) (u : Upd S W W') (hn : ¬ S bl) : LkAt bl xs W' := u.get h hn
theorem LkAt.put {bl : Nat} {xs ys : Array Value} {W W' : World} (h : LkAt bl xs W) (e : W' = W.setB bl (.cells ys 110 (0, 0))) : LkAt bl ys W' := by
  unfold LkAt at h ⊢
  rw [e, heap_setB, if_pos rfl, h]
  rfl
def LockI (w : World) (rb b ba : Nat) (T : TypeId) (p : Option Addr) (cap : Nat) (l : List UInt8) (st0 : Except Int (List UInt8)) (f : Int) (n n0 : Nat) (m : Nat) (ρ : Env) (W : World) : Prop :=
  ∃ (i : Nat) (L : List (Int × Int × Int × Unit)) (st : Except Int (List UInt8)) (d : SlV), m = n - i ∧ i ≤ n ∧ L.length = i ∧ RdL lockC n i st0 st L ∧ ρ 8 = .int .u64 n ∧ ρ 9 = .int .u64 i ∧ ρ 4 = .pointer (some ⟨rb, 0, none⟩) ∧ ρ 6 = .pointer (some ⟨b, 0, none⟩) ∧ ρ 7 = .pointer (some ⟨ba, 0, none⟩) ∧
    GS w W rb b ba T p cap l st { zeroA with file := f, locks := d } ∧ OwnL W n0 (.slice d.p d.n d.cap) (L.map lockOf) ∧ n0 ≤ W.heap.size
theorem ask10_of {f : Int} {n : Nat} {st sta stb st1 st2 : Except Int (List UInt8)} {L : List (Int × Int × Int × Unit)} (RF : Rd (numC 8) st sta f) (R1 : Rd (mostC 2 16 3) sta stb (n : Int)) (RZ : Rd (zeroC 2) stb st1 ()) (RD : Rd (listC lockC n) st1 st2 L) : Rd askF10.C st st2 (f, (n : Int), (), L) := by
  have h := Rd.seq (D := fun _ => seqC (mostC 2 16 3) fun n => seqC (zeroC 2) fun _ => listC lockC n.toNat) (b := ((n : Int), (), L)) RF (Rd.seq (D := fun n => seqC (zeroC 2) fun _ => listC lockC n.toNat) (b := ((), L)) R1 (Rd.seq (D := fun _ => listC lockC n) RZ RD))
  exact h
set_option maxHeartbeats 2000000 in
theorem fileGetAsk10 {s : Value} {l : List UInt8} (hb : BytesAt w s l) (hl : l.length ≤ 1099511627776) : CallP Tryz.prog 85 #[.int .u16 10, s] w (fun r w' => Upd noB w w' ∧ AskRes w' w.heap.size r (askF10.get l)) := by
  obtain ⟨p, cap, rfl, hcap⟩ := hb.len
  refine call_den (args := [_, _]) Tryz.func85 rfl rfl (by simp [Tryz.ntmps85]) ?_
  simp [go_sem]
  refine CallP.mono (fileKnown_any _ _) ?_
  rintro r W ⟨rfl, hW⟩
  have hu : Upd noB w W := by rw [hW]; exact (by repeat (first | exact Upd.refl _ _ | refine Upd.alloc ?_ _ | refine Upd.drew ?_ | refine Upd.drewN ?_ _ | refine Upd.setB ?_ _ _ (fun h => absurd h (by omega))))
  have h0 : W.heap[w.heap.size]? = some (.cells zeroA.cells 34 (0, 0)) := by rw [hW, heap_alloc, if_pos rfl]
  clear hW
  simp [go_sem, known9]
  refine gen_call ?_
  intro W2 hW2
  have g := GS.start (T := 140) hb hl hu h0 hW2
  clear hW2 h0 hu
  generalize W.heap.size = b at *
  generalize w.heap.size = rb at *
  clear W
  revert W2
  intro W g
  refine CallP.mono (fileN8 g.rd) ?_
  rintro v W1 ⟨x1, rfl, p1, q1, u, st1, I, R1⟩
  replace g := g.read u I
  clear u I
  simp [go_sem, g.ask]
  refine gen_call ?_
  intro W2 hW2
  replace g := g.set _ hW2
  clear hW2
  have lt := g.lt
  obtain ⟨n0, hn0⟩ : ∃ n0, n0 = W2.heap.size := ⟨_, rfl⟩
  rw [← hn0] at lt
  refine CallP.mono (fileSmall2 (m := 16) (e := 3) (by decide) g.rd) ?_
  rintro v W1 ⟨x2, rfl, p2, q2, u, st2, I, R2⟩
  replace g := g.read u I
  have hn1 : n0 ≤ W1.heap.size := by rw [hn0]; exact u.size
  clear u I
  obtain ⟨n, rfl⟩ := Int.eq_ofNat_of_zero_le p2
  have hn65 : n < 65536 := by have : (n : Int) < 65536 := q2; omega
  simp [go_sem]
  refine CallP.mono (fileSmall2 (m := 0) (e := 5) (by decide) g.rd) ?_
  rintro v W1 ⟨x3, rfl, p3, q3, u, st3, I, R3⟩
  replace g := g.read u I
  replace hn1 := Nat.le_trans hn1 u.size
  clear u I
  simp [go_sem]
  refine den_loop (LockI w rb b (b + 1) 140 p cap l st3 x1 n n0) n ?_ ?_
  · exact ⟨0, [], st3, ⟨none, 0, 0⟩, rfl, by omega, rfl, RdL.start, by simp [go_sem], by simp [go_sem], by simp [go_sem], by simp [go_sem], by simp [go_sem], g, nilL _ _, hn1⟩
  clear g hn1 hn0
  rintro m ρ W ⟨i, L, st, d, rfl, hi, hL, RL, g8, g9, g4, g6, g7, g, own, hnl⟩
  by_cases hrun : i < n ∧ ∃ r, st = .ok r
  · obtain ⟨hin, r, hst⟩ := hrun
    have hin' : (i : Int) < n := by omega
    obtain ⟨a, e, hc, hso⟩ := g.rd.cell
    rw [hst] at hso
    obtain ⟨rfl, _⟩ := hso
    have hwr : IntKind.u64.wrap ((i : Int) + 1) = ((i + 1 : Nat) : Int) := by rw [wrap64 (by omega) (by omega)]; omega
    simp [go_sem, g8, g9, g4, g6, g7, hin', hin, hc]
    refine CallP.mono (fileN8 g.rd) ?_
    rintro v W1 ⟨y1, rfl, p1, q1, u, s1, I, S1⟩
    replace own := own_above own u (fun i h => by subst h; exact lt.1)
    replace hnl := Nat.le_trans hnl u.size
    replace g := g.read u I
    clear u I
    have hob : ∀ k, (Value.slice d.p d.n d.cap).ownBlock = some k → k < W1.heap.size := fun k hk => (own.lt k hk).2
    obtain ⟨bl, hbl0⟩ : ∃ bl, bl = W1.heap.size := ⟨_, rfl⟩
    have hbl : n0 ≤ bl := by rw [hbl0]; exact hnl
    have hbb : bl ≠ b := by omega
    simp [go_sem, g4, g6, g7]
    rw [← hbl0] at hob ⊢
    refine gen_call ?_
    intro W2 hW2
    have u : Upd noB W1 W2 := by rw [hW2]; exact ((Upd.refl _ _).alloc _).setB _ _ (fun h => absurd h (by omega))
    have lk : LkAt bl #[.int .i64 0, .int .u64 y1, .int .u64 0, .int .u16 0] W2 := by unfold LkAt; rw [hW2, heap_setB, if_pos rfl, heap_alloc, if_pos hbl0]; rfl
    replace own := own_keep0 own u
    replace hnl := Nat.le_trans hnl u.size
    replace g := g.keep u
    clear u hW2
    refine CallP.mono (fileN8 g.rd) ?_
    rintro v W1 ⟨y2, rfl, p2, q2, u, s2, I, S2⟩
    replace own := own_above own u (fun i h => by subst h; exact lt.1)
    replace lk := lk.keep u hbb
    replace hnl := Nat.le_trans hnl u.size
    replace g := g.read u I
    clear u I
    have lk' := lk
    unfold LkAt at lk'
    simp [go_sem, lk', g4, g6, g7]
    refine gen_call ?_
    intro W2 hW2
    have u : Upd (fun x => x = bl) W1 W2 := by rw [hW2]; exact (Upd.refl _ _).setB _ _ (fun _ => rfl)
    replace own := own_keep own u (fun k hk h => by have := hob k hk; omega)
    replace lk := lk.put hW2
    replace hnl := Nat.le_trans hnl u.size
    replace g := g.keepN lt (u.mono (fun i _ h => by subst h; exact hbl))
    clear u hW2
    refine CallP.mono (fileN2 g.rd) ?_
    rintro v W1 ⟨y3, rfl, p3, q3, u, s3, I, S3⟩
    replace own := own_above own u (fun i h => by subst h; exact lt.1)
    replace lk := lk.keep u hbb
    replace hnl := Nat.le_trans hnl u.size
    replace g := g.read u I
    clear u I
    have lk' := lk
    unfold LkAt at lk'
    have c3 : IntKind.u16.wrap y3 = y3 := wrap16 p3 q3
    simp [go_sem, lk', g4, g6, g7, c3]
    refine gen_call ?_
    intro W2 hW2
    have u : Upd (fun x => x = bl) W1 W2 := by rw [hW2]; exact (Upd.refl _ _).setB _ _ (fun _ => rfl)
    replace own := own_keep own u (fun k hk h => by have := hob k hk; omega)
    replace lk := lk.put hW2
    replace hnl := Nat.le_trans hnl u.size
    replace g := g.keepN lt (u.mono (fun i _ h => by subst h; exact hbl))
    clear u hW2
    refine CallP.mono (fileSmall2 (m := 0) (e := 5) (by decide) g.rd) ?_
    rintro v W1 ⟨y4, rfl, p4, q4, u, s4, I, S4⟩
    replace own := own_above own u (fun i h => by subst h; exact lt.1)
    replace lk := lk.keep u hbb
    replace hnl := Nat.le_trans hnl u.size
    replace g := g.read u I
    clear u I
    have hr : (LockV.row (lockOf (y1, y2, y3, ()))).toArray = #[.int .i64 0, .int .u64 y1, .int .u64 y2, .int .u16 y3] := rfl
    have hb1 := slLock.build1K (w := W1) (.agg (LockV.row (lockOf (y1, y2, y3, ()))).toArray) rfl (by decide)
    obtain ⟨v', W2, hrun, own2, u2⟩ := sl_pushR slLock own (LockV.row (lockOf (y1, y2, y3, ()))) rfl (by intro u hu; simp [LockV.row] at hu; rcases hu with rfl | rfl | rfl | rfl <;> rfl) 32 (by simp; omega) (by simp [maxLen]; omega) hnl
    rw [hr] at hb1 hrun
    simp only [Value.cells] at hb1
    have lk' := lk
    unfold LkAt at lk'
    obtain ⟨d2p, d2n, d2c, rfl⟩ : ∃ p n c, v' = .slice p n c := by
      obtain ⟨q, c, h⟩ := (RowAt.of_own own2).len
      exact ⟨q, _, c, h⟩
    have g2 := g.keepN lt u2
    simp [go_sem, g4, g6, g7, g8, g9, g.ask, lk', hb1, K_append_ok _ _ _ _ hrun, g2.ask]
    refine ⟨n - (i + 1), by omega, i + 1, L ++ [(y1, y2, y3, ())], s4, ⟨d2p, d2n, d2c⟩, rfl, by omega, by simp [hL], RL.step hin (Rd.seq (D := fun _ => _) S1 (Rd.seq (D := fun _ => _) S2 (Rd.seq (D := fun _ => _) S3 (zero_of S4)))), by simp [go_sem, g8], by simp [go_sem, hwr], by simp [go_sem, g4], by simp [go_sem, g6], by simp [go_sem, g7], g2.set _ rfl, ?_, ?_⟩
    · have o := own_above own2 (Upd.setB (Upd.refl (fun x => x = b + 1) W2) (b + 1) (.cells (AskV.cells { zeroA with file := x1, locks := ⟨d2p, d2n, d2c⟩ }) 34) (fun _ => rfl)) (fun i h => by subst h; exact lt.2.1)
      unfold OwnL
      rw [List.map_append, List.length_append, List.flatMap_append]
      exact o
    · rw [size_setB]
      exact Nat.le_trans hnl u2.size
  · skip
    by_cases hin : i < n
    · have hin' : (i : Int) < n := by omega
      obtain ⟨a, e, hc, hso⟩ := g.rd.cell
      cases st with
      | ok r => exact absurd ⟨hin, r, rfl⟩ hrun
      | error z =>
        obtain ⟨rfl, hz⟩ := hso
        have RD := RL.err
        simp [go_sem, g8, g9, g4, g6, g7, hin', hin, hc, hz]
        refine CallP.mono (fileEnd g.rd) ?_
        have hne := g.rd.ne
        rintro v W1 ⟨rfl, u, stE, I⟩
        replace own := own_above own u (fun i h => by subst h; exact lt.1)
        replace g := g.read u I
        clear u I
        have G := (askF10).of_rd (ask10_of R1 R2 (zero_of R3) RD) hne
        by_cases hf : finE (.error e) = 0
        · rw [if_pos hf] at G
          simp [go_sem, hf, g4, g7, g.ask, g.res]
          refine ⟨g.rd.u.setB _ _ (fun h => absurd h (by have := g.ne; omega)), ?_⟩
          rw [G]
          exact ⟨_, rfl, rfl, nilW _ _, nil_own _ _, own_base (own_above own (Upd.setB (Upd.refl (fun x => x = rb) _) _ _ (fun _ => rfl)) (fun i h => by subst h; exact lt.2.2.1)) (Nat.le_of_lt lt.2.2.1)⟩
        · rw [if_neg hf] at G
          simp [go_sem, hf, g4, g7, g.ask, g.res]
          exact ⟨g.rd.u.setB _ _ (fun h => absurd h (by have := g.ne; omega)), by rw [G]; rfl⟩
    · have hi' : i = n := by omega
      subst hi'
      have RD := RL.done
      simp [go_sem, g8, g9, g4, g6, g7]
      refine CallP.mono (fileEnd g.rd) ?_
      have hne := g.rd.ne
      rintro v W1 ⟨rfl, u, stE, I⟩
      replace own := own_above own u (fun i h => by subst h; exact lt.1)
      replace g := g.read u I
      clear u I
      have G := (askF10).of_rd (ask10_of R1 R2 (zero_of R3) RD) hne
      by_cases hf : finE (st) = 0
      · rw [if_pos hf] at G
        simp [go_sem, hf, g4, g7, g.ask, g.res]
        refine ⟨g.rd.u.setB _ _ (fun h => absurd h (by have := g.ne; omega)), ?_⟩
        rw [G]
        exact ⟨_, rfl, rfl, nilW _ _, nil_own _ _, own_base (own_above own (Upd.setB (Upd.refl (fun x => x = rb) _) _ _ (fun _ => rfl)) (fun i h => by subst h; exact lt.2.2.1)) (Nat.le_of_lt lt.2.2.1)⟩
      · rw [if_neg hf] at G
        simp [go_sem, hf, g4, g7, g.ask, g.res]
        exact ⟨g.rd.u.setB _ _ (fun h => absurd h (by have := g.ne; omega)), by rw [G]; rfl⟩
end Go.Proofs.YtinfdomlpbikaaaGreatDoor
namespace Go.Proofs.YtinfdomlpbikaaaGreatDoor
open Go.Eng Go.Lib
set_option linter.unusedSimpArgs false
set_option linter.unusedVariables false
set_option maxRecDepth 100000
variable {w w0 : World}
def EnAt (bl : Nat) (xs : Array Value) (W : World) : Prop := W.heap[bl]? = some (.cells xs 114 (0, 0))
theorem EnAt.keep {bl : Nat} {xs : Array Value} {S : Nat → Prop} {W W' : World} (h : EnAt bl xs W) (u : Upd S W W') (hn : ¬ S bl) : EnAt bl xs W' := u.get h hn
theorem EnAt.put {bl : Nat} {xs ys : Array Value} {W W' : World} (h : EnAt bl xs W) (e : W' = W.setB bl (.cells ys 114 (0, 0))) : EnAt bl ys W' := by
  unfold EnAt at h ⊢
  rw [e, heap_setB, if_pos rfl, h]
  rfl
def EntI (w : World) (rb b ba : Nat) (T : TypeId) (p : Option Addr) (cap : Nat) (l : List UInt8) (st0 : Except Int (List UInt8)) (f : Bool) (n n0 : Nat) (m : Nat) (ρ : Env) (W : World) : Prop :=
  ∃ (i : Nat) (L : List (Int × Unit × Int × ByteArray)) (st : Except Int (List UInt8)) (d : SlV), m = n - i ∧ i ≤ n ∧ L.length = i ∧ RdL entC n i st0 st L ∧ ρ 8 = .int .u64 n ∧ ρ 9 = .int .u64 i ∧ ρ 4 = .pointer (some ⟨rb, 0, none⟩) ∧ ρ 6 = .pointer (some ⟨b, 0, none⟩) ∧ ρ 7 = .pointer (some ⟨ba, 0, none⟩) ∧
    GZ w W rb b ba T p cap l st { zeroS with more := f, entries := d } ∧ OwnE W n0 (.slice d.p d.n d.cap) (L.map entOf) ∧ n0 ≤ W.heap.size
theorem say14_of {f : Bool} {n : Nat} {st sta st1 st2 : Except Int (List UInt8)} {L : List (Int × Unit × Int × ByteArray)} (R1 : Rd (mostC 2 64 3) st sta (n : Int)) (RB : Rd (boolC 2) sta st1 f) (RD : Rd (listC entC n) st1 st2 L) : Rd sayF14.C st st2 ((n : Int), f, L) := by
  have h := Rd.seq (D := fun n => seqC (boolC 2) fun _ => listC entC n.toNat) (b := (f, L)) R1 (Rd.seq (D := fun _ => listC entC n) RB RD)
  exact h
set_option maxHeartbeats 2000000 in
theorem infoGetSay14 {s : Value} {l : List UInt8} (hb : BytesAt w s l) (hl : l.length ≤ 1099511627776) : CallP Tryz.prog 91 #[.int .u16 14, s] w (fun r w' => Upd noB w w' ∧ SayRes w' w.heap.size r (sayF14.get l)) := by
  obtain ⟨p, cap, rfl, hcap⟩ := hb.len
  refine call_den (args := [_, _]) Tryz.func91 rfl rfl (by simp [Tryz.ntmps91]) ?_
  simp [go_sem]
  refine CallP.mono (infoKnown_any _ _) ?_
  rintro r W ⟨rfl, hW⟩
  have hu : Upd noB w W := by rw [hW]; exact (by repeat (first | exact Upd.refl _ _ | refine Upd.alloc ?_ _ | refine Upd.drew ?_ | refine Upd.drewN ?_ _ | refine Upd.setB ?_ _ _ (fun h => absurd h (by omega))))
  have h0 : W.heap[w.heap.size]? = some (.cells zeroS.cells 39 (0, 0)) := by rw [hW, heap_alloc, if_pos rfl]
  clear hW
  simp [go_sem, known10]
  refine gen_call ?_
  intro W2 hW2
  have g := GZ.start (T := 153) hb hl hu h0 hW2
  clear hW2 h0 hu
  generalize W.heap.size = b at *
  generalize w.heap.size = rb at *
  clear W
  revert W2
  intro W g
  have lt := g.lt
  obtain ⟨n0, hn0⟩ : ∃ n0, n0 = W.heap.size := ⟨_, rfl⟩
  rw [← hn0] at lt
  refine CallP.mono (infoMost (k := 2) (by decide) (m := 64) (e := 3) (by decide) g.rd) ?_
  rintro v W1 ⟨x1, rfl, p1, q1, u, st1, I, R1⟩
  replace g := g.read u I
  have hn1 : n0 ≤ W1.heap.size := by rw [hn0]; exact u.size
  clear u I
  obtain ⟨n, rfl⟩ := Int.eq_ofNat_of_zero_le p1
  have hn65 : n < 65536 := by have : (n : Int) < 65536 := q1; omega
  simp [go_sem]
  refine CallP.mono (infoTruth g.rd) ?_
  rintro v W1 ⟨x2, rfl, u, st2, I, R2⟩
  replace g := g.read u I
  obtain ⟨bm, hbm⟩ : ∃ bm, bm = x2 := ⟨_, rfl⟩
  have RB : Rd (boolC 2) st1 st2 bm := by rw [hbm]; exact R2
  replace hn1 := Nat.le_trans hn1 u.size
  clear u I
  simp [go_sem, g.ask, ← hbm]
  refine gen_den ?_
  intro W2 hW2
  have u : Upd (fun x => x = b + 1) W1 W2 := by rw [hW2]; exact (Upd.refl _ _).setB _ _ (fun _ => rfl)
  replace hn1 := Nat.le_trans hn1 u.size
  replace g := g.set _ hW2
  clear hW2 u
  refine den_loop (EntI w rb b (b + 1) 153 p cap l st2 bm n n0) n ?_ ?_
  · exact ⟨0, [], st2, ⟨none, 0, 0⟩, rfl, by omega, rfl, RdL.start, by simp [go_sem], by simp [go_sem], by simp [go_sem], by simp [go_sem], by simp [go_sem], g, nilE _ _, hn1⟩
  clear g hn1 hn0
  rintro m ρ W ⟨i, L, st, d, rfl, hi, hL, RL, g8, g9, g4, g6, g7, g, own, hnl⟩
  by_cases hrun : i < n ∧ ∃ r, st = .ok r
  · obtain ⟨hin, r, hst⟩ := hrun
    have hin' : (i : Int) < n := by omega
    obtain ⟨a, e, hc, hso⟩ := g.rd.cell
    rw [hst] at hso
    obtain ⟨rfl, _⟩ := hso
    have hwr : IntKind.u64.wrap ((i : Int) + 1) = ((i + 1 : Nat) : Int) := by rw [wrap64 (by omega) (by omega)]; omega
    simp [go_sem, g8, g9, g4, g6, g7, hin', hin, hc]
    refine CallP.mono (infoMost (k := 2) (by decide) (m := 2) (e := 5) (by decide) g.rd) ?_
    rintro v W1 ⟨y1, rfl, p1, q1, u, s1, I, S1⟩
    replace own := own_above own u (fun i h => by subst h; exact lt.1)
    replace hnl := Nat.le_trans hnl u.size
    replace g := g.read u I
    clear u I
    obtain ⟨k1, hk1⟩ : ∃ k, k = IntKind.u8.wrap y1 := ⟨_, rfl⟩
    replace S1 := most_as S1 (y := k1) (fun h => by rw [hk1]; exact wrap8 p1 (by omega))
    have hob : ∀ k, (Value.slice d.p d.n d.cap).ownBlock = some k → k < W1.heap.size := fun k hk => (own.lt k hk).2
    obtain ⟨bl, hbl0⟩ : ∃ bl, bl = W1.heap.size := ⟨_, rfl⟩
    have hbl : n0 ≤ bl := by rw [hbl0]; exact hnl
    have hbb : bl ≠ b := by omega
    simp [go_sem, g4, g6, g7, ← hk1]
    rw [← hbl0] at hob ⊢
    refine gen_call ?_
    intro W2 hW2
    have u : Upd noB W1 W2 := by rw [hW2]; exact ((Upd.refl _ _).alloc _).setB _ _ (fun h => absurd h (by omega))
    have lk : EnAt bl #[.string ⟨#[]⟩, .int .u8 k1, .int .i64 0] W2 := by unfold EnAt; rw [hW2, heap_setB, if_pos rfl, heap_alloc, if_pos hbl0]; rfl
    replace own := own_keep0 own u
    replace hnl := Nat.le_trans hnl u.size
    replace g := g.keep u
    clear u hW2
    refine CallP.mono (infoZero (k := 2) (by decide) g.rd) ?_
    rintro v W1 ⟨u, s2, I, S2⟩
    replace own := own_above own u (fun i h => by subst h; exact lt.1)
    replace lk := lk.keep u hbb
    replace hnl := Nat.le_trans hnl u.size
    replace g := g.read u I
    clear u I
    simp [go_sem, g4, g6, g7]
    refine CallP.mono (infoMost (k := 8) (by decide) (m := 1048576) (e := 5) (by decide) g.rd) ?_
    rintro v W1 ⟨y3, rfl, p3, q3, u, s3, I, S3⟩
    replace own := own_above own u (fun i h => by subst h; exact lt.1)
    replace lk := lk.keep u hbb
    replace hnl := Nat.le_trans hnl u.size
    replace g := g.read u I
    clear u I
    obtain ⟨k3, hk3⟩ : ∃ k, k = IntKind.i64.wrap y3 := ⟨_, rfl⟩
    replace S3 := most_as S3 (y := k3) (fun h => by rw [hk3]; exact wrap64_id (by omega) (by omega))
    have lk' := lk
    unfold EnAt at lk'
    simp [go_sem, lk', g4, g6, g7, ← hk3]
    refine gen_call ?_
    intro W2 hW2
    have u : Upd (fun x => x = bl) W1 W2 := by rw [hW2]; exact (Upd.refl _ _).setB _ _ (fun _ => rfl)
    replace own := own_keep own u (fun k hk h => by have := hob k hk; omega)
    replace lk := lk.put hW2
    replace hnl := Nat.le_trans hnl u.size
    replace g := g.keepN lt (u.mono (fun i _ h => by subst h; exact hbl))
    clear u hW2
    refine CallP.mono (infoText g.rd) ?_
    rintro v W1 ⟨y4, rfl, u, s4, I, S4⟩
    replace own := own_above own u (fun i h => by subst h; exact lt.1)
    replace lk := lk.keep u hbb
    replace hnl := Nat.le_trans hnl u.size
    replace g := g.read u I
    clear u I
    have lk' := lk
    unfold EnAt at lk'
    simp [go_sem, lk', g4, g6, g7]
    refine gen_load ?_
    intro W2 hW2
    have u : Upd (fun x => x = bl) W1 W2 := by rw [hW2]; exact (Upd.refl _ _).setB _ _ (fun _ => rfl)
    replace own := own_keep own u (fun k hk h => by have := hob k hk; omega)
    replace lk := lk.put hW2
    replace hnl := Nat.le_trans hnl u.size
    replace g := g.keepN lt (u.mono (fun i _ h => by subst h; exact hbl))
    clear u hW2
    have hr : (EntV.row (entOf (k1, (), k3, y4))).toArray = #[.string y4, .int .u8 k1, .int .i64 k3] := rfl
    have hb1 := slEnt.build1K (w := W2) (.agg (EntV.row (entOf (k1, (), k3, y4))).toArray) rfl (by decide)
    obtain ⟨v', W3, hrun, own2, u2⟩ := sl_pushR slEnt own (EntV.row (entOf (k1, (), k3, y4))) rfl (by intro u hu; simp [EntV.row] at hu; rcases hu with rfl | rfl | rfl <;> rfl) 37 (by simp; omega) (by simp [maxLen]; omega) hnl
    rw [hr] at hb1 hrun
    simp only [Value.cells] at hb1
    have lk' := lk
    unfold EnAt at lk'
    obtain ⟨d2p, d2n, d2c, rfl⟩ : ∃ p n c, v' = .slice p n c := by
      obtain ⟨q, c, h⟩ := (RowAt.of_own own2).len
      exact ⟨q, _, c, h⟩
    have g2 := g.keepN lt u2
    simp [go_sem, g4, g6, g7, g8, g9, g.ask, lk', hb1, K_append_ok _ _ _ _ hrun, g2.ask]
    refine ⟨n - (i + 1), by omega, i + 1, L ++ [(k1, (), k3, y4)], s4, ⟨d2p, d2n, d2c⟩, rfl, by omega, by simp [hL], RL.step hin (Rd.seq (D := fun _ => _) S1 (Rd.seq (D := fun _ => _) (S2) (Rd.seq (D := fun _ => _) S3 S4))), by simp [go_sem, g8], by simp [go_sem, hwr], by simp [go_sem, g4], by simp [go_sem, g6], by simp [go_sem, g7], g2.set _ rfl, ?_, ?_⟩
    · have o := own_above own2 (Upd.setB (Upd.refl (fun x => x = b + 1) W3) (b + 1) (.cells (SayV.cells { zeroS with more := bm, entries := ⟨d2p, d2n, d2c⟩ }) 39) (fun _ => rfl)) (fun i h => by subst h; exact lt.2.1)
      unfold OwnE
      rw [List.map_append, List.length_append, List.flatMap_append]
      exact o
    · rw [size_setB]
      exact Nat.le_trans hnl u2.size
  · skip
    by_cases hin : i < n
    · have hin' : (i : Int) < n := by omega
      obtain ⟨a, e, hc, hso⟩ := g.rd.cell
      cases st with
      | ok r => exact absurd ⟨hin, r, rfl⟩ hrun
      | error z =>
        obtain ⟨rfl, hz⟩ := hso
        have RD := RL.err
        simp [go_sem, g8, g9, g4, g6, g7, hin', hin, hc, hz]
        refine CallP.mono (infoEnd g.rd) ?_
        have hne := g.rd.ne
        rintro v W1 ⟨rfl, u, stE, I⟩
        replace own := own_above own u (fun i h => by subst h; exact lt.1)
        replace g := g.read u I
        clear u I
        have G := (sayF14).of_rd (say14_of R1 (RB) RD) hne
        by_cases hf : finE (.error e) = 0
        · rw [if_pos hf] at G
          simp [go_sem, hf, g4, g7, g.ask, g.res]
          refine ⟨g.rd.u.setB _ _ (fun h => absurd h (by have := g.ne; omega)), ?_⟩
          rw [G]
          exact ⟨_, rfl, rfl, nil_own _ _, own_base (own_above own (Upd.setB (Upd.refl (fun x => x = rb) _) _ _ (fun _ => rfl)) (fun i h => by subst h; exact lt.2.2.1)) (Nat.le_of_lt lt.2.2.1)⟩
        · rw [if_neg hf] at G
          simp [go_sem, hf, g4, g7, g.ask, g.res]
          exact ⟨g.rd.u.setB _ _ (fun h => absurd h (by have := g.ne; omega)), by rw [G]; rfl⟩
    · have hi' : i = n := by omega
      subst hi'
      have RD := RL.done
      simp [go_sem, g8, g9, g4, g6, g7]
      refine CallP.mono (infoEnd g.rd) ?_
      have hne := g.rd.ne
      rintro v W1 ⟨rfl, u, stE, I⟩
      replace own := own_above own u (fun i h => by subst h; exact lt.1)
      replace g := g.read u I
      clear u I
      have G := (sayF14).of_rd (say14_of R1 (RB) RD) hne
      by_cases hf : finE (st) = 0
      · rw [if_pos hf] at G
        simp [go_sem, hf, g4, g7, g.ask, g.res]
        refine ⟨g.rd.u.setB _ _ (fun h => absurd h (by have := g.ne; omega)), ?_⟩
        rw [G]
        exact ⟨_, rfl, rfl, nil_own _ _, own_base (own_above own (Upd.setB (Upd.refl (fun x => x = rb) _) _ _ (fun _ => rfl)) (fun i h => by subst h; exact lt.2.2.1)) (Nat.le_of_lt lt.2.2.1)⟩
      · rw [if_neg hf] at G
        simp [go_sem, hf, g4, g7, g.ask, g.res]
        exact ⟨g.rd.u.setB _ _ (fun h => absurd h (by have := g.ne; omega)), by rw [G]; rfl⟩
end Go.Proofs.YtinfdomlpbikaaaGreatDoor
namespace Go.Proofs.YtinfdomlpbikaaaGreatDoor
open Go.Eng Go.Lib
set_option linter.unusedSimpArgs false
set_option linter.unusedVariables false
set_option maxRecDepth 100000
variable {w w0 : World}
theorem cls_ok {x : Int} {st1 st2 : Except Int (List UInt8)} (h : 1 ≤ x ∧ x ≤ 3) (R : Rd (numC 2) st1 st2 x) : Rd (chkC (numC 2) (fun c => decide (1 ≤ c ∧ c ≤ 3)) 5) st1 st2 x := by
  have := R.chk (p := fun c => decide (1 ≤ c ∧ c ≤ 3)) (e := 5) (b := x) (fun _ => rfl) rfl
  have e : chkSt (fun c : Int => decide (1 ≤ c ∧ c ≤ 3)) 5 x st2 = st2 := by
    cases st2 with
    | error e => rfl
    | ok r => simp [chkSt, h]
  rw [e] at this
  exact this
theorem cls_err {x e : Int} {st1 : Except Int (List UInt8)} (R : Rd (numC 2) st1 (.error e) x) : Rd (chkC (numC 2) (fun c => decide (1 ≤ c ∧ c ≤ 3)) 5) st1 (.error e) x :=
  R.chk (p := fun c => decide (1 ≤ c ∧ c ≤ 3)) (e := 5) (b := x) (fun _ => rfl) rfl
theorem cls_bad {x : Int} {r : List UInt8} {st1 : Except Int (List UInt8)} (h : ¬ (1 ≤ x ∧ x ≤ 3)) (R : Rd (numC 2) st1 (.ok r) x) : Rd (chkC (numC 2) (fun c => decide (1 ≤ c ∧ c ≤ 3)) 5) st1 (.error 5) x :=
  R.chk (p := fun c => decide (1 ≤ c ∧ c ≤ 3)) (e := 5) (b := x) (fun _ => rfl) (by simp [chkSt, h])
theorem cls1 {st2 st3 : Except Int (List UInt8)} {s : Int} (R : Rd (numC 8) st2 st3 s) : Rd (clsC 1) st2 st3 (s, false, ByteArray.empty) := by
  unfold clsC
  rw [if_pos rfl]
  exact R.sub
theorem cls2 {st2 st3 : Except Int (List UInt8)} {o : Bool} (R : Rd (boolC 2) st2 st3 o) : Rd (clsC 2) st2 st3 (0, o, ByteArray.empty) := by
  unfold clsC
  rw [if_neg (by decide), if_pos rfl]
  exact R.sub
theorem cls3 {st2 st3 st4 : Except Int (List UInt8)} {o : Bool} {s : ByteArray} (R : Rd (boolC 2) st2 st3 o) (R2 : Rd textC st3 st4 s) : Rd (clsC 3) st2 st4 (0, o, s) := by
  unfold clsC
  rw [if_neg (by decide), if_neg (by decide)]
  exact (Rd.seq (D := fun _ => textC) R R2).sub
theorem rd_err {α : Type} {C : Codec α} {e : Int} {v : α} : Rd C (.error e) (.error e) v := ⟨rfl, by intro l x r h; cases h⟩
theorem GS.err5 {W W' : World} {rb b ba : Nat} {T : TypeId} {p : Option Addr} {cap : Nat} {l : List UInt8} {st : Except Int (List UInt8)} {A : AskV} {a e : Int} (g : GS w W rb b ba T p cap l st A) (hc : W.heap[b]? = some (.cells (rdC (.slice p l.length cap) a e []) T (0, 0))) (h : W' = W.setB b (.cells (rdC (.slice p l.length cap) a 5 []) T (0, 0))) : GS w W' rb b ba T p cap l (.error 5) A := by
  subst h
  have u : Upd (fun x => x = b) W (W.setB b (.cells (rdC (.slice p l.length cap) a 5 []) T (0, 0))) := (Upd.refl _ _).setB _ _ (fun _ => rfl)
  exact g.read u (g.rd.set u (by rw [heap_setB, if_pos rfl, hc]; rfl) ⟨rfl, by decide⟩)
theorem ask17_of {st st1 st2 st3 : Except Int (List UInt8)} {f c : Int} {v : Int × Bool × ByteArray} (RF : Rd (numC 8) st st1 f) (RC : Rd (chkC (numC 2) (fun c => decide (1 ≤ c ∧ c ≤ 3)) 5) st1 st2 c) (RV : Rd (clsC c) st2 st3 v) : Rd askF17.C st st3 (f, c, v) :=
  Rd.seq (D := fun _ => seqC (chkC (numC 2) (fun c => decide (1 ≤ c ∧ c ≤ 3)) 5) clsC) RF (Rd.seq (D := clsC) RC RV)
end Go.Proofs.YtinfdomlpbikaaaGreatDoor
