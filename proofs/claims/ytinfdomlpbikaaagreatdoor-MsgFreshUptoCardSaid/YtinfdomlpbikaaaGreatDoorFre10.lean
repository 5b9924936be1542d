/-
  What is asked to begin a talk, put by the program.
  What is said of files, put by the document.
  What is said to begin and end a talk, put by the program.
  What is asked of files, put by the program.
  What is asked of files with bytes, put by the program.
  What a Create asks, put by the program.
  What a Create, and a Lock, ask, put by the program.
  What is said of files, put by the program.
  What is asked about files, put by the document.
  What is asked about files, put by the document.
  What is asked about files, put by the program.
  What a Set asks, put by the program.
-/
import Derived.Test.YtinfdomlpbikaaaGreatDoorFre9
import Derived.Test.YtinfdomlpbikaaaGreatDoorFre5
namespace Go.Proofs.YtinfdomlpbikaaaGreatDoor
open Go.Eng Go.Lib
set_option linter.unusedSimpArgs false
set_option linter.unusedVariables false
set_option maxRecDepth 100000
variable {w w0 : World}
theorem slBB : SlT Tryz.prog 131 31 1 24 :=
  SlT.mk' Tryz.underlying131 (i := Tryz.t31) (z := .slice none 0 0) (by kernel_rfl) (by kernel_rfl) (by kernel_rfl) (by kernel_rfl) rfl (by decide)
theorem bb2 (p1 p2 : Option Addr) (n1 n2 c1 c2 : Nat) (w : World) (k : Value → World → Prop) : K_buildSlice Tryz.prog 131 2 #[(0, .slice p1 n1 c1), (1, .slice p2 n2 c2)] w k = k (.slice (some ⟨w.heap.size, 0, none⟩) 2 2) (w.alloc (.cells [.slice p1 n1 c1, .slice p2 n2 c2].toArray 31)) :=
  slBB.buildN (w := w) 2 #[(0, .slice p1 n1 c1), (1, .slice p2 n2 c2)] rfl (by simp [Value.cells]) (by decide) (by decide) k
theorem bb3 (p1 p2 p3 : Option Addr) (n1 n2 n3 c1 c2 c3 : Nat) (w : World) (k : Value → World → Prop) : K_buildSlice Tryz.prog 131 3 #[(0, .slice p1 n1 c1), (1, .slice p2 n2 c2), (2, .slice p3 n3 c3)] w k = k (.slice (some ⟨w.heap.size, 0, none⟩) 3 3) (w.alloc (.cells [.slice p1 n1 c1, .slice p2 n2 c2, .slice p3 n3 c3].toArray 31)) :=
  slBB.buildN (w := w) 3 #[(0, .slice p1 n1 c1), (1, .slice p2 n2 c2), (2, .slice p3 n3 c3)] rfl (by simp [Value.cells]) (by decide) (by decide) k
theorem Parts.of (V : List Value) (L : List (List UInt8)) (hl : V.length = L.length) (h : ∀ (i : Nat) (v : Value) (l : List UInt8), V[i]? = some v → L[i]? = some l → BytesAt w v l) : Parts (w.alloc (.cells V.toArray 31)) w.heap.size V L :=
  ⟨⟨by simp, Or.inr ⟨w.heap.size, 0, V.length, _, _, _, rfl, by rw [heap_alloc, if_pos rfl], by simp, by simp⟩⟩, hl, fun i v l h1 h2 => (h i v l h1 h2).keep0 ((Upd.refl noB _).alloc _)⟩
theorem proof_at {a : AskV} {ba : Nat} (h : w.heap[ba]? = some (.cells a.cells 34 (0, 0))) : BytesAt w (.slice (some ⟨ba, 17, none⟩) 32 32) a.proof.1 := by
  have hc := ask_cut17 a 34 (0, 0)
  rw [← h] at hc
  obtain ⟨c, te, f, hb, hle, he⟩ := cutIn_spec hc
  have hl := a.proof.2
  exact ⟨⟨by simp, Or.inr ⟨ba, 17, 32, c, te, f, by rw [hl], hb, by rw [hl]; omega, by rw [hl]; exact he.symm⟩⟩, Nat.le_refl _⟩
theorem guid_at {a : AskV} {ba : Nat} (h : w.heap[ba]? = some (.cells a.cells 34 (0, 0))) : BytesAt w (.slice (some ⟨ba, 1, none⟩) 16 16) a.guid.1 := by
  have hc := ask_cut1 a 34 (0, 0)
  rw [← h] at hc
  obtain ⟨c, te, f, hb, hle, he⟩ := cutIn_spec hc
  have hl := a.guid.2
  exact ⟨⟨by simp, Or.inr ⟨ba, 1, 16, c, te, f, by rw [hl], hb, by rw [hl]; omega, by rw [hl]; exact he.symm⟩⟩, Nat.le_refl _⟩
theorem ask_row_rest (a : AskV) : ∃ r : List Value, (∀ (g : Arr 16) (p : Arr 32), (AskV.mk a.dialects g p a.user a.share a.access a.sharing a.way a.options a.level a.durable a.file a.name a.at_ a.n a.data a.locks a.most a.pattern a.after a.cls a.size_ a.on).cells = ([Value.slice a.dialects.p a.dialects.n a.dialects.cap] ++ (g.1.map u8V ++ (p.1.map u8V ++ r))).toArray) :=
  ⟨[.string a.user, .string a.share, .int .u32 a.access, .int .u32 a.sharing, .int .u32 a.way, .int .u32 a.options, .int .u8 a.level, .int .u8 a.durable, .int .u64 a.file, .string a.name, .int .u64 a.at_, .int .u32 a.n, .slice a.data.p a.data.n a.data.cap, .slice a.locks.p a.locks.n a.locks.cap, .int .u16 a.most, .string a.pattern, .string a.after, .int .u16 a.cls, .int .u64 a.size_, .bool a.on], fun _ _ => rfl⟩
@[go_sem high] theorem ask_put1 (a : AskV) (g : Arr 16) (t : TypeId) : putsAt (some (.cells a.cells t (0, 0))) 1 (g.1.map u8V).toArray = some (.cells (AskV.mk a.dialects g a.proof a.user a.share a.access a.sharing a.way a.options a.level a.durable a.file a.name a.at_ a.n a.data a.locks a.most a.pattern a.after a.cls a.size_ a.on).cells t (0, 0)) := by
  obtain ⟨r, hr⟩ := ask_row_rest a
  have h0 : a.cells = _ := hr a.guid a.proof
  rw [h0, hr]
  exact put_row [Value.slice a.dialects.p a.dialects.n a.dialects.cap] (a.guid.1.map u8V) (g.1.map u8V) (a.proof.1.map u8V ++ r) t (by simp [a.guid.2, g.2])
@[go_sem high] theorem ask_put17 (a : AskV) (p : Arr 32) (t : TypeId) : putsAt (some (.cells a.cells t (0, 0))) 17 (p.1.map u8V).toArray = some (.cells (AskV.mk a.dialects a.guid p a.user a.share a.access a.sharing a.way a.options a.level a.durable a.file a.name a.at_ a.n a.data a.locks a.most a.pattern a.after a.cls a.size_ a.on).cells t (0, 0)) := by
  obtain ⟨r, hr⟩ := ask_row_rest a
  have h0 : a.cells = _ := hr a.guid a.proof
  rw [h0, hr]
  have := put_row ([Value.slice a.dialects.p a.dialects.n a.dialects.cap] ++ a.guid.1.map u8V) (a.proof.1.map u8V) (p.1.map u8V) r t (by simp [a.proof.2, p.2])
  have hl : ([Value.slice a.dialects.p a.dialects.n a.dialects.cap] ++ a.guid.1.map u8V).length = 17 := by simp [a.guid.2]
  rw [hl, List.append_assoc, List.append_assoc] at this
  exact this
@[go_sem] theorem one_u8 (l : List UInt8) : oneAll (l.map u8V).toArray = true := by rw [oneAll_mk, List.all_eq_true]; intro v hv; exact u8_one l v hv
set_option maxHeartbeats 2000000 in
theorem talkPutAsk1 {a : AskV} {A : AskS} (ha : AskAt w a A) (ok : a.ok) (hs : a.user.size ≤ 1099511627776) (hT : Tabs w) : CallP Tryz.prog 92 #[.int .u16 1, .agg a.cells] w (fun r w' => Upd noB w w' ∧ PutR w' w.heap.size r (askF1.put A)) := by
  refine call_den (args := [_, _]) Tryz.func92 rfl rfl (by simp [Tryz.ntmps92]) ?_
  simp [go_sem]
  refine gen_draw ?_
  intro W hW
  have g : TQ w W w.heap.size (w.heap.size + 1) a zeroA := by rw [hW]; exact ⟨(by repeat (first | exact Upd.refl _ _ | refine Upd.alloc ?_ _ | refine Upd.drew ?_ | refine Upd.drewN ?_ _ | refine Upd.setB ?_ _ _ (fun h => absurd h (by omega)))), (by simp only [heap_setB, heap_alloc, heap_drew, heap_drewN, size_setB, World.size_alloc]; (repeat (first | rw [if_pos trivial] | rw [if_pos (by omega)] | rw [if_neg (by omega)])); try rfl), (by simp only [heap_setB, heap_alloc, heap_drew, heap_drewN, size_setB, World.size_alloc]; (repeat (first | rw [if_pos trivial] | rw [if_pos (by omega)] | rw [if_neg (by omega)])); try rfl), by omega, by omega, by omega⟩
  clear hW
  generalize hbx : w.heap.size + 1 = bx at g ⊢
  generalize hba : w.heap.size = ba at g ⊢
  clear hbx
  have hne := g.ne.1
  refine Go.Eng.Ch.draw_script [.pure 0, .pure 2, .chain [1, 3, 4] [5], .pure 6, .one 7] (by kernel_rfl) (by kernel_rfl) (by kernel_rfl) ?_
  simp [go_sem]
  replace g := g.keep (Upd.refl noB _).drew
  have hS0 := g.qa
  obtain ⟨W1, hW1⟩ : ∃ W1, W1 = W.drew := ⟨_, rfl⟩
  rw [← hW1] at g hS0 ⊢
  clear hW1
  haveI : Nonempty { W : World // AskS0 ba a W } := ⟨⟨W1, hS0⟩⟩
  have q1 : ∀ i : { W : World // AskS0 ba a W }, i.1.heap[ba]? = some (.cells a.cells 34 (0, 0)) := fun i => i.2
  refine Go.Eng.Ch.opsPh_chain _ _ (AskS0 ba a) hS0 ?_
  have hSS : ∀ W' o, AskS0 ba a (W'.setB bx o) = AskS0 ba a W' := fun W' o => by unfold AskS0; rw [heap_setB, if_neg hne]
  have hS1 : AskS0 ba a W1 := hS0
  have hbx := g.qx
  have qg : ∀ i : { W : World // AskS0 ba a W }, (Instr.loadAt 26 (.pointer (some ⟨ba, 1, none⟩))).run Tryz.prog i.1 = .ok (.agg (a.guid.1.map u8V).toArray) i.1 := fun i => loadAt_cut (Tryz.isAgg26 _) (Tryz.sizeOf26 _) (by rw [q1 i]; exact ask_cut1 _ _ _)
  have qp : ∀ i : { W : World // AskS0 ba a W }, (Instr.loadAt 30 (.pointer (some ⟨ba, 17, none⟩))).run Tryz.prog i.1 = .ok (.agg (a.proof.1.map u8V).toArray) i.1 := fun i => loadAt_cut (Tryz.isAgg30 _) (Tryz.sizeOf30 _) (by rw [q1 i]; exact ask_cut17 _ _ _)
  have sg : (a.guid.1.map u8V).toArray.size = 16 := by simp [a.guid.2]
  have sp : (a.proof.1.map u8V).toArray.size = 32 := by simp [a.proof.2]
  have hsg : ∀ (W : World) (X : AskV) (k : World → Prop), W.heap[bx]? = some (.cells X.cells 34 (0, 0)) → K_store Tryz.prog 26 (.pointer (some ⟨bx, 1, none⟩)) (.agg (a.guid.1.map u8V).toArray) W k = k (W.setB bx (.cells (AskV.mk X.dialects a.guid X.proof X.user X.share X.access X.sharing X.way X.options X.level X.durable X.file X.name X.at_ X.n X.data X.locks X.most X.pattern X.after X.cls X.size_ X.on).cells 34 (0, 0))) := fun W X k hb => K_store_part 26 bx 1 _ k (by rw [hb]; exact ask_put1 X a.guid _) (by rw [sg]; exact Tryz.sizeOf26 _) (one_u8 _)
  have hsp : ∀ (W : World) (X : AskV) (k : World → Prop), W.heap[bx]? = some (.cells X.cells 34 (0, 0)) → K_store Tryz.prog 30 (.pointer (some ⟨bx, 17, none⟩)) (.agg (a.proof.1.map u8V).toArray) W k = k (W.setB bx (.cells (AskV.mk X.dialects X.guid a.proof X.user X.share X.access X.sharing X.way X.options X.level X.durable X.file X.name X.at_ X.n X.data X.locks X.most X.pattern X.after X.cls X.size_ X.on).cells 34 (0, 0))) := fun W X k hb => K_store_part 30 bx 17 _ k (by rw [hb]; exact ask_put17 X a.proof _) (by rw [sp]; exact Tryz.sizeOf30 _) (one_u8 _)
  simp [go_sem, q1, hbx, hSS, hS1, Go.Eng.Ch.contJ_app, heap_setB, hS0, hne, Q_load_fix qg, Q_load_fix qp, hsp W1 zeroA _ hbx, hsg W1 zeroA _ hbx]
  clear q1 hSS hS1 qg qp hsg hsp sg sp hS0 hbx
  refine gen_call ?_
  intro W' hW
  replace g := (g.set (AskV.mk zeroA.dialects zeroA.guid a.proof zeroA.user zeroA.share zeroA.access zeroA.sharing zeroA.way zeroA.options zeroA.level zeroA.durable zeroA.file zeroA.name zeroA.at_ zeroA.n zeroA.data zeroA.locks zeroA.most zeroA.pattern zeroA.after zeroA.cls zeroA.size_ zeroA.on) rfl).set (AskV.mk zeroA.dialects zeroA.guid a.proof a.user zeroA.share zeroA.access zeroA.sharing zeroA.way zeroA.options zeroA.level zeroA.durable zeroA.file zeroA.name zeroA.at_ zeroA.n zeroA.data zeroA.locks zeroA.most zeroA.pattern zeroA.after zeroA.cls zeroA.size_ zeroA.on) hW
  have hX : AskAt W' (AskV.mk zeroA.dialects zeroA.guid a.proof a.user zeroA.share zeroA.access zeroA.sharing zeroA.way zeroA.options zeroA.level zeroA.durable zeroA.file zeroA.name zeroA.at_ zeroA.n zeroA.data zeroA.locks zeroA.most zeroA.pattern zeroA.after zeroA.cls zeroA.size_ zeroA.on) (askF1.mkS (askF1.unS A)) := AskAt.plain (by show AskV.mk _ _ A.f.proof A.f.user _ _ _ _ _ _ _ _ _ _ _ _ _ _ _ _ _ _ _ = _; rw [ha.f]; rfl) ⟨rfl, rfl⟩ ⟨rfl, rfl⟩ ⟨rfl, rfl⟩
  have okX : AskV.ok (AskV.mk zeroA.dialects zeroA.guid a.proof a.user zeroA.share zeroA.access zeroA.sharing zeroA.way zeroA.options zeroA.level zeroA.durable zeroA.file zeroA.name zeroA.at_ zeroA.n zeroA.data zeroA.locks zeroA.most zeroA.pattern zeroA.after zeroA.cls zeroA.size_ zeroA.on) := ⟨zeroA_ok.1, zeroA_ok.2, zeroA_ok.3, zeroA_ok.4, zeroA_ok.5, zeroA_ok.6, zeroA_ok.7, zeroA_ok.8, zeroA_ok.9, zeroA_ok.10, zeroA_ok.11, zeroA_ok.12⟩
  clear hW
  refine CallP.mono (talkKnown_any 1 (by decide) _) ?_
  rintro v W1 ⟨rfl, hW1⟩
  rw [hW1]; clear hW1; clear W1
  simp [go_sem, known8, g.qa, g.qx]
  refine CallP.mono (talkSame_any hX (ha.keep g.u) okX ok ⟨rfl, rfl, rfl⟩) ?_
  rintro v W2 ⟨x, rfl, hx, u2⟩
  replace g := g.keep u2
  clear u2
  cases x with
  | false =>
    have hA : ¬ askF1.mkS (askF1.unS A) = A := fun h => by have := hx.2 h; cases this
    simp [go_sem]
    rw [askF1.put_no hA]
    exact ⟨g.u, rfl⟩
  | true =>
    have hA := hx.1 rfl
    simp [go_sem, g.qa]
    refine CallP.mono (putText_any a.user hs (hT.keep0 g.u)) ?_
    rintro r W3 ⟨u3, hr⟩
    replace g := g.keep u3
    have hput : askF1.put A = match textPut a.user.data.toList with
        | .error e => .error e
        | .ok c => .ok (a.proof.1 ++ c) := by
      rw [askF1.put_ok hA rfl]
      show (seqC (arrC 32) fun _ => textC).put (A.f.proof, A.f.user) = _
      rw [ha.f]
      rfl
    rw [hput]
    cases ht : textPut a.user.data.toList with
    | error z =>
      rw [ht] at hr
      simp only [PutR] at hr
      subst hr
      have hz := textPut_err ht
      simp [go_sem, hz]
      exact ⟨g.u, rfl⟩
    | ok b =>
      rw [ht] at hr
      simp only [PutR] at hr
      obtain ⟨v, rfl, own⟩ := hr
      obtain ⟨pv, nv, cv, rfl⟩ := own.slice
      have hp := Parts.of (w := W3) [.slice (some ⟨ba, 17, none⟩) 32 32, .slice pv nv cv] [a.proof.1, b] rfl (by
        intro i v l h1 h2
        obtain rfl | rfl | h : i = 0 ∨ i = 1 ∨ 2 ≤ i := by omega
        · cases h1; cases h2; exact proof_at g.qa
        · cases h1; cases h2; exact own.at
        · rw [List.getElem?_eq_none (by simpa using h)] at h1; cases h1)
      have hbl := textPut_len ht
      have hl := a.proof.2
      have hsum : sumL [a.proof.1, b] = 32 + b.length := by simp [sumL, hl]
      simp [go_sem, g.qa, bb2]
      refine gen_call ?_
      intro Wb hWb
      have ub : Upd noB W3 Wb := by rw [hWb]; exact (Upd.refl _ _).alloc _
      rw [← hWb] at hp
      clear hWb
      generalize W3.heap.size = bb at hp ⊢
      have hcc := concat_any hp (by omega) (by omega) (by simp)
      simp only [List.length_cons, List.length_nil, Nat.zero_add, Nat.reduceAdd] at hcc
      refine CallP.mono hcc ?_
      rintro v W4 ⟨u4, own4⟩
      simp [go_sem]
      refine ⟨(g.u.trans ub).trans u4, v, rfl, ?_⟩
      have e : [a.proof.1, b].flatten = a.proof.1 ++ b := by simp
      rw [e] at own4
      exact own_base own4 (by have := g.u.size; have := ub.size; omega)
theorem leB2_fl (L : List Int) : (L.flatMap (fun x => leB x.toNat 2)).length = 2 * L.length := by
  induction L with
  | nil => rfl
  | cons a l ih => rw [List.flatMap_cons, List.length_append, ih, leB_len, List.length_cons]; omega
theorem TQ.grow {w W W' : World} {ba bx base : Nat} {a X : AskV} (h : TQ w W ba bx a X) (u : Upd (fun i => base ≤ i) W W') (hb : ba < base ∧ bx < base ∧ w.heap.size ≤ base) : TQ w W' ba bx a X :=
  ⟨h.u.trans' u (fun i hi hlt => by omega), u.get h.qa (by omega), u.get h.qx (by omega), h.ne⟩
theorem leB_2 (n : Nat) : leB n 2 = [UInt8.ofNat n, UInt8.ofNat (n / 256)] := rfl
def NgI (w : World) (ba bx base : Nat) (a X : AskV) (L : List Int) (m : Nat) (ρ : Env) (W : World) : Prop :=
  ∃ (k : Nat) (v : Value), m = L.length - k ∧ k ≤ L.length ∧ ρ 3 = .pointer (some ⟨ba, 0, none⟩) ∧ ρ 7 = v ∧ ρ 61 = .slice a.dialects.p a.dialects.n a.dialects.cap ∧ ρ 62 = .int .i64 L.length ∧ ρ 63 = .int .i64 k ∧ TQ w W ba bx a X ∧ base ≤ W.heap.size ∧ OwnB W base v (leB L.length 2 ++ (L.take k).flatMap (fun x => leB x.toNat 2))
set_option maxHeartbeats 2000000 in
theorem talkPutAsk0 {a : AskV} {A : AskS} (ha : AskAt w a A) (ok : a.ok) (okd : ∀ x ∈ A.dia, 0 ≤ x ∧ x < 65536) : CallP Tryz.prog 92 #[.int .u16 0, .agg a.cells] w (fun r w' => Upd noB w w' ∧ PutR w' w.heap.size r (askF0.put A)) := by
  refine call_den (args := [_, _]) Tryz.func92 rfl rfl (by simp [Tryz.ntmps92]) ?_
  simp [go_sem]
  refine gen_draw ?_
  intro W hW
  have g : TQ w W w.heap.size (w.heap.size + 1) a zeroA := by rw [hW]; exact ⟨(by repeat (first | exact Upd.refl _ _ | refine Upd.alloc ?_ _ | refine Upd.drew ?_ | refine Upd.drewN ?_ _ | refine Upd.setB ?_ _ _ (fun h => absurd h (by omega)))), (by simp only [heap_setB, heap_alloc, heap_drew, heap_drewN, size_setB, World.size_alloc]; (repeat (first | rw [if_pos trivial] | rw [if_pos (by omega)] | rw [if_neg (by omega)])); try rfl), (by simp only [heap_setB, heap_alloc, heap_drew, heap_drewN, size_setB, World.size_alloc]; (repeat (first | rw [if_pos trivial] | rw [if_pos (by omega)] | rw [if_neg (by omega)])); try rfl), by omega, by omega, by omega⟩
  clear hW
  generalize hbx : w.heap.size + 1 = bx at g ⊢
  generalize hba : w.heap.size = ba at g ⊢
  clear hbx
  have hne := g.ne.1
  refine Go.Eng.Ch.draw_script [.pure 0, .pure 2, .chain [1, 3, 4] [5], .pure 6, .one 7] (by kernel_rfl) (by kernel_rfl) (by kernel_rfl) ?_
  simp [go_sem]
  replace g := g.keep (Upd.refl noB _).drew
  have hS0 := g.qa
  obtain ⟨W1, hW1⟩ : ∃ W1, W1 = W.drew := ⟨_, rfl⟩
  rw [← hW1] at g hS0 ⊢
  clear hW1
  haveI : Nonempty { W : World // AskS0 ba a W } := ⟨⟨W1, hS0⟩⟩
  have q1 : ∀ i : { W : World // AskS0 ba a W }, i.1.heap[ba]? = some (.cells a.cells 34 (0, 0)) := fun i => i.2
  refine Go.Eng.Ch.opsPh_chain _ _ (AskS0 ba a) hS0 ?_
  have hSS : ∀ W' o, AskS0 ba a (W'.setB bx o) = AskS0 ba a W' := fun W' o => by unfold AskS0; rw [heap_setB, if_neg hne]
  have hS1 : AskS0 ba a W1 := hS0
  have hbx := g.qx
  have qg : ∀ i : { W : World // AskS0 ba a W }, (Instr.loadAt 26 (.pointer (some ⟨ba, 1, none⟩))).run Tryz.prog i.1 = .ok (.agg (a.guid.1.map u8V).toArray) i.1 := fun i => loadAt_cut (Tryz.isAgg26 _) (Tryz.sizeOf26 _) (by rw [q1 i]; exact ask_cut1 _ _ _)
  have qp : ∀ i : { W : World // AskS0 ba a W }, (Instr.loadAt 30 (.pointer (some ⟨ba, 17, none⟩))).run Tryz.prog i.1 = .ok (.agg (a.proof.1.map u8V).toArray) i.1 := fun i => loadAt_cut (Tryz.isAgg30 _) (Tryz.sizeOf30 _) (by rw [q1 i]; exact ask_cut17 _ _ _)
  have sg : (a.guid.1.map u8V).toArray.size = 16 := by simp [a.guid.2]
  have sp : (a.proof.1.map u8V).toArray.size = 32 := by simp [a.proof.2]
  have hsg : ∀ (W : World) (X : AskV) (k : World → Prop), W.heap[bx]? = some (.cells X.cells 34 (0, 0)) → K_store Tryz.prog 26 (.pointer (some ⟨bx, 1, none⟩)) (.agg (a.guid.1.map u8V).toArray) W k = k (W.setB bx (.cells (AskV.mk X.dialects a.guid X.proof X.user X.share X.access X.sharing X.way X.options X.level X.durable X.file X.name X.at_ X.n X.data X.locks X.most X.pattern X.after X.cls X.size_ X.on).cells 34 (0, 0))) := fun W X k hb => K_store_part 26 bx 1 _ k (by rw [hb]; exact ask_put1 X a.guid _) (by rw [sg]; exact Tryz.sizeOf26 _) (one_u8 _)
  have hsp : ∀ (W : World) (X : AskV) (k : World → Prop), W.heap[bx]? = some (.cells X.cells 34 (0, 0)) → K_store Tryz.prog 30 (.pointer (some ⟨bx, 17, none⟩)) (.agg (a.proof.1.map u8V).toArray) W k = k (W.setB bx (.cells (AskV.mk X.dialects X.guid a.proof X.user X.share X.access X.sharing X.way X.options X.level X.durable X.file X.name X.at_ X.n X.data X.locks X.most X.pattern X.after X.cls X.size_ X.on).cells 34 (0, 0))) := fun W X k hb => K_store_part 30 bx 17 _ k (by rw [hb]; exact ask_put17 X a.proof _) (by rw [sp]; exact Tryz.sizeOf30 _) (one_u8 _)
  simp [go_sem, q1, hbx, hSS, hS1, Go.Eng.Ch.contJ_app, heap_setB, hS0, hne, Q_load_fix qg, Q_load_fix qp, hsp W1 zeroA _ hbx, hsg W1 zeroA _ hbx]
  rw [hsg _ (AskV.mk a.dialects zeroA.guid zeroA.proof zeroA.user zeroA.share zeroA.access zeroA.sharing zeroA.way zeroA.options zeroA.level zeroA.durable zeroA.file zeroA.name zeroA.at_ zeroA.n zeroA.data zeroA.locks zeroA.most zeroA.pattern zeroA.after zeroA.cls zeroA.size_ zeroA.on) _ (by rw [heap_setB, if_pos rfl, hbx]; rfl)]
  simp [go_sem, hSS, hS1, Go.Eng.Ch.contJ_app, heap_setB, hS0, hne]
  clear q1 hSS hS1 qg qp hsg hsp sg sp hS0 hbx
  refine gen_call ?_
  intro W' hW
  replace g := (g.set (AskV.mk a.dialects zeroA.guid zeroA.proof zeroA.user zeroA.share zeroA.access zeroA.sharing zeroA.way zeroA.options zeroA.level zeroA.durable zeroA.file zeroA.name zeroA.at_ zeroA.n zeroA.data zeroA.locks zeroA.most zeroA.pattern zeroA.after zeroA.cls zeroA.size_ zeroA.on) rfl).set (AskV.mk a.dialects a.guid zeroA.proof zeroA.user zeroA.share zeroA.access zeroA.sharing zeroA.way zeroA.options zeroA.level zeroA.durable zeroA.file zeroA.name zeroA.at_ zeroA.n zeroA.data zeroA.locks zeroA.most zeroA.pattern zeroA.after zeroA.cls zeroA.size_ zeroA.on) hW
  have hX : AskAt W' (AskV.mk a.dialects a.guid zeroA.proof zeroA.user zeroA.share zeroA.access zeroA.sharing zeroA.way zeroA.options zeroA.level zeroA.durable zeroA.file zeroA.name zeroA.at_ zeroA.n zeroA.data zeroA.locks zeroA.most zeroA.pattern zeroA.after zeroA.cls zeroA.size_ zeroA.on) (askF0.mkS (askF0.unS A)) := (ha.keep g.u).sub (by show AskV.mk _ A.f.guid _ _ _ _ _ _ _ _ _ _ _ _ _ _ _ _ _ _ _ _ _ = _; rw [ha.f]; rfl) (Or.inr ⟨rfl, rfl⟩) (Or.inl ⟨rfl, rfl⟩) (Or.inl ⟨rfl, rfl⟩)
  have okX : AskV.ok (AskV.mk a.dialects a.guid zeroA.proof zeroA.user zeroA.share zeroA.access zeroA.sharing zeroA.way zeroA.options zeroA.level zeroA.durable zeroA.file zeroA.name zeroA.at_ zeroA.n zeroA.data zeroA.locks zeroA.most zeroA.pattern zeroA.after zeroA.cls zeroA.size_ zeroA.on) := ⟨zeroA_ok.1, zeroA_ok.2, zeroA_ok.3, zeroA_ok.4, zeroA_ok.5, zeroA_ok.6, zeroA_ok.7, zeroA_ok.8, zeroA_ok.9, zeroA_ok.10, zeroA_ok.11, zeroA_ok.12⟩
  clear hW
  refine CallP.mono (talkKnown_any 0 (by decide) _) ?_
  rintro v W1 ⟨rfl, hW1⟩
  rw [hW1]; clear hW1; clear W1
  simp [go_sem, known8, g.qa, g.qx]
  refine CallP.mono (talkSame_any hX (ha.keep g.u) okX ok ⟨rfl, rfl, rfl⟩) ?_
  rintro v W2 ⟨x, rfl, hx, u2⟩
  replace g := g.keep u2
  clear u2
  cases x with
  | false =>
    have hA : ¬ askF0.mkS (askF0.unS A) = A := fun h => by have := hx.2 h; cases this
    simp [go_sem]
    rw [askF0.put_no hA]
    exact ⟨g.u, rfl⟩
  | true =>
    have hA := hx.1 rfl
    have hnd : a.dialects.n = A.dia.length := ha.nums.1
    by_cases hlim : 16 < A.dia.length
    · have hlim' : 16 < (a.dialects.n : Int) := by omega
      have hlim2 : 16 < a.dialects.n := by omega
      have hpre : askF0.pre A = 3 := if_pos hlim
      simp [go_sem, g.qa, hlim', hlim2]
      rw [askF0.put_pre hA (by rw [hpre]; decide), hpre]
      exact ⟨g.u, rfl⟩
    · have hlim' : ¬ 16 < (a.dialects.n : Int) := by omega
      have hlim2 : ¬ 16 < a.dialects.n := by omega
      have hpre : askF0.pre A = 0 := if_neg hlim
      have cn : IntKind.u64.wrap (a.dialects.n : Int) = a.dialects.n := wrap64 (by omega) (by omega)
      simp [go_sem, g.qa, hlim', hlim2, cn]
      refine CallP.mono (endsPut_z (k := 2) (by decide) (by omega) (by omega) _) ?_
      have hlo : ba < W2.heap.size ∧ bx < W2.heap.size ∧ w.heap.size ≤ W2.heap.size := ⟨(Array.getElem?_eq_some_iff.1 g.qa).1, (Array.getElem?_eq_some_iff.1 g.qx).1, g.u.size⟩
      rintro r W3 ⟨v, rfl, u3, own⟩
      replace g := g.keep u3
      simp [go_sem, g.qa]
      have hput : askF0.put A = .ok (leB A.dia.length 2 ++ (A.dia.flatMap (fun x => leB x.toNat 2) ++ a.guid.1)) := by
        rw [askF0.put_ok hA hpre]
        show (seqC (mostC 2 16 3) fun n => seqC (listC (numC 2) n.toNat) fun _ => arrC 16).put ((A.dia.length : Int), A.dia, A.f.guid) = _
        refine seq_put (most_put (by omega) (by omega) (by omega)) (seq_put (list_put _ (fun x hx => num_put (okd x hx).1 (okd x hx).2)) ?_)
        rw [ha.f]
        rfl
      rw [hput]
      refine den_loop (NgI w ba bx W2.heap.size a (AskV.mk a.dialects a.guid zeroA.proof zeroA.user zeroA.share zeroA.access zeroA.sharing zeroA.way zeroA.options zeroA.level zeroA.durable zeroA.file zeroA.name zeroA.at_ zeroA.n zeroA.data zeroA.locks zeroA.most zeroA.pattern zeroA.after zeroA.cls zeroA.size_ zeroA.on) A.dia) A.dia.length ?_ ?_
      · refine ⟨0, v, rfl, by omega, by simp [go_sem], by simp [go_sem], by simp [go_sem], by simp [go_sem, hnd], by simp [go_sem], g, u3.size, ?_⟩
        rw [hnd] at own
        simpa using own
      have hbase := g.u.size
      have hsz3 := u3.size
      clear own g u3 hbase
      rintro m ρ W ⟨k, v, rfl, hk, g3, g7, g61, g62, g63, g, hws, own⟩
      by_cases hlt : k < A.dia.length
      · obtain ⟨x, hx⟩ : ∃ x, A.dia[k]? = some x := ⟨_, List.getElem?_eq_getElem hlt⟩
        have hr := okd x (List.mem_of_getElem? hx)
        have row := (ha.keep g.u).dia
        rw [← hnd] at row
        obtain ⟨q, hidx, hld, hK⟩ := row.at1 (P := Tryz.prog) (t := 29) (e := 22) Tryz.underlying29 Tryz.sizeOf22 Tryz.isAgg22 k (by omega) (.int .u16 x) (by rw [List.getElem?_map, hx]; rfl)
        have hwr : IntKind.i64.wrap ((k : Int) + 1) = ((k + 1 : Nat) : Int) := wrap64_id (by omega) (by omega)
        obtain ⟨n, rfl⟩ := Int.eq_ofNat_of_zero_le hr.1
        obtain ⟨y, hy⟩ : ∃ y, y = UInt8.ofNat n := ⟨_, rfl⟩
        obtain ⟨z, hz⟩ : ∃ z, z = UInt8.ofNat (n / 256) := ⟨_, rfl⟩
        have e1 : IntKind.u8.wrap (n : Int) = (y.toNat : Int) := by rw [hy, ← u8_wrap]
        have e2 : IntKind.u8.wrap ((n : Int) / 256) = (z.toNat : Int) := by rw [hz, ← u8_wrap]; rfl
        simp [go_sem, g3, g7, g61, g62, g63, hlt, hidx, hK, hwr, e1, e2, b2]
        refine gen_append ?_
        intro Wa hWa
        have ua : Upd noB W Wa := by rw [hWa]; exact (Upd.refl _ _).alloc _
        have src : BytesAt Wa (.slice (some ⟨W.heap.size, 0, none⟩) 2 2) [y, z] := by rw [hWa]; exact (fresh_bytes [y, z] W (by simp)).at
        clear hWa
        obtain ⟨p2, n2, c2, W4, hrun, own4, u4⟩ := OwnB.appendN (own_keep0 own ua) src 31 (by rw [List.length_append, leB2_fl, leB_len, List.length_take]; simp; omega) (by have := ua.size; omega)
        simp [K_append_ok _ _ _ _ hrun, go_sem, g63, hwr]
        refine ⟨A.dia.length - (k + 1), by omega, k + 1, .slice p2 n2 c2, rfl, by omega, by simp [go_sem, g3], by simp [go_sem], by simp [go_sem, g61], by simp [go_sem, g62], by simp [go_sem], (g.keep ua).grow u4 hlo, by have := ua.size; have := u4.size; omega, ?_⟩
        have e3 : leB n 2 = [y, z] := by rw [leB_2, ← hy, ← hz]
        rw [flat_snoc _ _ _ _ hx, ← List.append_assoc, Int.toNat_natCast, e3]
        exact own4
      · obtain rfl : k = A.dia.length := by omega
        rw [List.take_length] at own
        have hgl := a.guid.2
        have hfl := leB2_fl A.dia
        obtain ⟨p2, n2, c2, W4, hrun, own4, u4⟩ := OwnB.appendN own (guid_at g.qa) 31 (by rw [List.length_append, hfl, leB_len]; omega) hws
        simp [go_sem, g3, g7, g61, g62, g63, g.qa, K_append_ok _ _ _ _ hrun]
        refine ⟨(g.grow u4 hlo).u, .slice p2 n2 c2, rfl, ?_⟩
        rw [List.append_assoc] at own4
        exact own_base own4 (by omega)
end Go.Proofs.YtinfdomlpbikaaaGreatDoor
namespace Go.Proofs.YtinfdomlpbikaaaGreatDoor
open Go.Eng Go.Lib
set_option linter.unusedSimpArgs false
set_option linter.unusedVariables false
set_option maxRecDepth 100000
variable {w w0 : World}
theorem SayAt.sub {a X : SayV} {A S : SayS} (ha : SayAt w a A) (hf : S.f = X.bare) (ht : (X.data = ⟨none, 0, 0⟩ ∧ S.dat = []) ∨ (X.data = a.data ∧ S.dat = A.dat)) (he : (X.entries = ⟨none, 0, 0⟩ ∧ S.ent = []) ∨ (X.entries = a.entries ∧ S.ent = A.ent)) : SayAt w X S := by
  refine ⟨hf, ?_, ?_, ?_, ?_⟩
  · rcases ht with ⟨h1, h2⟩ | ⟨h1, h2⟩
    · rw [h1, h2]; exact bytesAt_nil w none 0
    · rw [h1, h2]; exact ha.dat
  · rcases he with ⟨h1, h2⟩ | ⟨h1, h2⟩
    · rw [h1, h2]; exact row0 w 3
    · rw [h1, h2]; exact ha.ent
  · rcases ht with ⟨h1, h2⟩ | ⟨h1, h2⟩
    · rw [h2]; simp
    · rw [h2]; exact ha.tl
  · rcases he with ⟨h1, h2⟩ | ⟨h1, h2⟩
    · rw [h2]; simp
    · rw [h2]; exact ha.el
theorem SayAt.nums {a : SayV} {A : SayS} (h : SayAt w a A) : a.data.n = A.dat.length ∧ a.entries.n = A.ent.length := by
  obtain ⟨_, _, h2, _⟩ := h.dat.len
  obtain ⟨_, _, h3⟩ := h.ent.len
  injection h2 with _ h2
  injection h3 with _ h3
  exact ⟨h2, h3⟩
theorem seq_putF {α β : Type} {C : Codec α} {D : α → Codec β} {x : α} {y : β} {e : Int} (h1 : C.put x = .error e) : (seqC C D).put (x, y) = .error e := by
  simp only [seqC, h1]
/-- the cells of what is said, and of what is wanted -/
structure SQ (w W : World) (ba bx : Nat) (a X : SayV) : Prop where
  u : Upd noB w W
  qa : W.heap[ba]? = some (.cells a.cells 39 (0, 0))
  qx : W.heap[bx]? = some (.cells X.cells 39 (0, 0))
  ne : ba ≠ bx ∧ w.heap.size ≤ ba ∧ w.heap.size ≤ bx
theorem SQ.set {w W W' : World} {ba bx : Nat} {a X : SayV} (h : SQ w W ba bx a X) (Y : SayV) (e : W' = W.setB bx (.cells Y.cells 39 (0, 0))) : SQ w W' ba bx a Y := by
  subst e
  exact ⟨h.u.setB _ _ (fun h' => absurd h' (by have := h.ne; omega)), by rw [heap_setB, if_neg h.ne.1]; exact h.qa, by rw [heap_setB, if_pos rfl, h.qx]; rfl, h.ne⟩
theorem SQ.keep {w W W' : World} {ba bx : Nat} {a X : SayV} (h : SQ w W ba bx a X) (u : Upd noB W W') : SQ w W' ba bx a X := ⟨h.u.trans u, u.get h.qa (fun h => h), u.get h.qx (fun h => h), h.ne⟩
end Go.Proofs.YtinfdomlpbikaaaGreatDoor
namespace Go.Proofs.YtinfdomlpbikaaaGreatDoor
open Go.Eng Go.Lib
set_option linter.unusedSimpArgs false
set_option linter.unusedVariables false
set_option maxRecDepth 100000
variable {w w0 : World}
def CT (w : World) (ba : Nat) (c : Int) (a : SayV) (q : Nat) (acc : Bool) (ρ : Env) (W : World) : Prop :=
  ρ 0 = .int .u16 c ∧ ρ 3 = .pointer (some ⟨ba, 0, none⟩) ∧ ρ q = .bool acc ∧ Upd noB w W ∧ W.heap[ba]? = some (.cells a.cells 39 (0, 0))
def plainB (a : SayV) : Bool := (a.dialect == 0 && a.size_ == 0) && a.challenge.1 == (zArr 8).1
theorem empty_iff {a : SayV} {A : SayS} (ha : SayAt w a A) : a.emptyP ↔ sayF0.mkS (sayF0.unS A) = A := by
  obtain ⟨n1, n2⟩ := ha.nums
  have hf := ha.f
  constructor
  · rintro ⟨h1, h2, h3⟩
    have d1 : A.dat = [] := List.length_eq_zero_iff.1 (by omega)
    have d2 : A.ent = [] := List.length_eq_zero_iff.1 (by omega)
    cases A
    simp only at *
    rw [d1, d2, hf, h1]
    rfl
  · intro h
    have e1 : A.f = SayV.mk A.f.dialect A.f.size_ A.f.challenge zeroS.level zeroS.durable zeroS.made zeroS.file zeroS.kind zeroS.data zeroS.n zeroS.entries zeroS.more zeroS.gone := (congrArg SayS.f h.symm).trans rfl
    have e2 : A.dat = [] := by rw [← h]; rfl
    have e3 : A.ent = [] := by rw [← h]; rfl
    refine ⟨?_, by rw [n1, e2]; rfl, by rw [n2, e3]; rfl⟩
    rw [hf] at e1
    exact e1
theorem plain_iff {a : SayV} {A : SayS} (ha : SayAt w a A) : (a.emptyP ∧ plainB a = true) ↔ sayFz.mkS (sayFz.unS A) = A := by
  obtain ⟨n1, n2⟩ := ha.nums
  have hf := ha.f
  constructor
  · rintro ⟨⟨h1, h2, h3⟩, hp⟩
    unfold plainB at hp
    simp only [Bool.and_eq_true, beq_iff_eq] at hp
    obtain ⟨⟨p1, p2⟩, p3⟩ := hp
    replace p3 := Subtype.ext p3
    have d1 : A.dat = [] := List.length_eq_zero_iff.1 (by omega)
    have d2 : A.ent = [] := List.length_eq_zero_iff.1 (by omega)
    cases A
    simp only at *
    rw [d1, d2, hf, h1, p1, p2, p3]
    rfl
  · intro h
    have e1 : A.f = zeroS := by rw [← h]; rfl
    have e2 : A.dat = [] := by rw [← h]; rfl
    have e3 : A.ent = [] := by rw [← h]; rfl
    have hb : a.bare = zeroS := hf.symm.trans e1
    have f1 : a.dialect = 0 := show a.bare.dialect = 0 by rw [hb]; rfl
    have f2 : a.size_ = 0 := show a.bare.size_ = 0 by rw [hb]; rfl
    have f3 : a.challenge = zArr 8 := show a.bare.challenge = zArr 8 by rw [hb]; rfl
    refine ⟨⟨by rw [hb, f1, f2, f3]; rfl, by rw [n1, e2]; rfl, by rw [n2, e3]; rfl⟩, ?_⟩
    unfold plainB
    rw [f1, f2, f3]
    simp
theorem chal_at {a : SayV} {ba : Nat} (h : w.heap[ba]? = some (.cells a.cells 39 (0, 0))) : BytesAt w (.slice (some ⟨ba, 2, none⟩) 8 8) a.challenge.1 := by
  have hc := say_cut2 a 39 (0, 0)
  rw [← h] at hc
  obtain ⟨c, te, f, hb, hle, he⟩ := cutIn_spec hc
  have hl := a.challenge.2
  exact ⟨⟨by simp, Or.inr ⟨ba, 2, 8, c, te, f, by rw [hl], hb, by rw [hl]; omega, by rw [hl]; exact he.symm⟩⟩, Nat.le_refl _⟩
theorem leB_4 (n : Nat) (h : n < 65536) : leB n 4 = leB n 2 ++ leB 0 2 := by
  show [UInt8.ofNat n, UInt8.ofNat (n / 256), UInt8.ofNat (n / 256 / 256), UInt8.ofNat (n / 256 / 256 / 256)] = [UInt8.ofNat n, UInt8.ofNat (n / 256), UInt8.ofNat 0, UInt8.ofNat 0]
  have e1 : n / 256 / 256 = 0 := by omega
  have e2 : n / 256 / 256 / 256 = 0 := by omega
  rw [e2, e1]
set_option maxHeartbeats 2000000 in
theorem talkPutSay1 {a : SayV} {A : SayS} (ha : SayAt w a A) (ok : a.ok) : CallP Tryz.prog 94 #[.int .u16 1, .agg a.cells] w (fun r w' => Upd noB w w' ∧ PutR w' w.heap.size r (sayFz.put A)) := by
  refine call_den (args := [_, _]) Tryz.func94 rfl rfl (by simp [Tryz.ntmps94]) ?_
  have hu : Upd noB w (w.alloc (.cells a.cells 39)) := (Upd.refl _ _).alloc _
  have hba : (w.alloc (.cells a.cells 39)).heap[w.heap.size]? = some (.cells a.cells 39 (0, 0)) := by rw [heap_alloc, if_pos rfl]
  obtain ⟨acc0, hK0⟩ : ∃ x, x = (a.dialect == 0) := ⟨_, rfl⟩
  simp [go_sem]
  generalize hq : w.heap.size = ba at hba ⊢
  refine opsS_cut 0 (CT w ba 1 a 14 acc0) ?_ ?_
  · simp only [List.take_zero, opsS_nil]
    exact ⟨by simp [go_sem], by simp [go_sem], by simp [go_sem, hK0], hu, hba⟩
  clear hba hu
  rintro ρ W ⟨g0, g3, gp, hu, hba⟩
  simp only [List.drop_zero]
  refine opsS_cut 4 (CT w ba 1 a 18 (acc0 && (a.size_ == 0))) ?_ ?_
  · cases acc0 <;> simp [go_sem, CT, g0, g3, gp, hba, hu]
  clear g0 g3 gp hba hu
  rintro ρ W ⟨g0, g3, gp, hu, hba⟩
  obtain ⟨acc1, hK1⟩ : ∃ x, x = (acc0 && (a.size_ == 0)) := ⟨_, rfl⟩
  rw [← hK1] at gp
  simp only [List.drop_succ_cons, List.drop_zero]
  refine opsS_cut 6 (CT w ba 1 a 24 (acc1 && (a.challenge.1 == (zArr 8).1))) ?_ ?_
  · cases acc1 <;> simp [go_sem, CT, g0, g3, gp, hba, hu]
  clear g0 g3 gp hba hu
  rintro ρ W ⟨g0, g3, gp, hu, hba⟩
  rw [hK1, hK0, show ((a.dialect == 0 && a.size_ == 0) && a.challenge.1 == (zArr 8).1) = plainB a from rfl] at gp
  simp only [List.drop_succ_cons, List.drop_zero]
  simp [go_sem, g0, g3, gp]
  refine CallP.mono (talkKnown_any 1 (by decide) _) ?_
  rintro v W1 ⟨rfl, hW1⟩
  rw [hW1]; clear hW1; clear W1
  simp [go_sem, known8, hba, g0, g3, gp]
  refine CallP.mono (empty_any ok ha.lens) ?_
  rintro v W2 ⟨x, rfl, hx, u2⟩
  replace hu := hu.trans u2
  replace hba := u2.get hba (fun h => h)
  clear u2
  have hi := plain_iff ha
  cases x with
  | false =>
    have hA : ¬ sayFz.mkS (sayFz.unS A) = A := fun h => by have := hx.2 (hi.2 h).1; cases this
    simp [go_sem, g0, g3, gp]
    rw [sayFz.put_no hA]
    exact ⟨hu, rfl⟩
  | true =>
    have he := hx.1 rfl
    cases hp : plainB a with
    | false =>
      have hA : ¬ sayFz.mkS (sayFz.unS A) = A := fun h => by have := (hi.2 h).2; rw [hp] at this; cases this
      simp [go_sem, g0, g3, gp, hp]
      rw [sayFz.put_no hA]
      exact ⟨hu, rfl⟩
    | true =>
      have hA := hi.1 ⟨he, hp⟩
      have hz : a.size_ = 0 := by unfold plainB at hp; simp at hp; exact hp.1.2
      simp [go_sem, g0, g3, gp, hp, hba, hz, make4]
      rw [sayFz.put_ok hA rfl]
      refine ⟨hu.alloc _, ?_⟩
      show PutR _ _ _ ((zeroC 4).put ())
      rw [zero4_put]
      exact ⟨_, rfl, own_base (own4 W2) (by have := hu.size; omega)⟩
set_option maxHeartbeats 2000000 in
theorem talkPutSay2 {a : SayV} {A : SayS} (ha : SayAt w a A) (ok : a.ok) : CallP Tryz.prog 94 #[.int .u16 2, .agg a.cells] w (fun r w' => Upd noB w w' ∧ PutR w' w.heap.size r (sayFz.put A)) := by
  refine call_den (args := [_, _]) Tryz.func94 rfl rfl (by simp [Tryz.ntmps94]) ?_
  have hu : Upd noB w (w.alloc (.cells a.cells 39)) := (Upd.refl _ _).alloc _
  have hba : (w.alloc (.cells a.cells 39)).heap[w.heap.size]? = some (.cells a.cells 39 (0, 0)) := by rw [heap_alloc, if_pos rfl]
  obtain ⟨acc0, hK0⟩ : ∃ x, x = (a.dialect == 0) := ⟨_, rfl⟩
  simp [go_sem]
  generalize hq : w.heap.size = ba at hba ⊢
  refine opsS_cut 0 (CT w ba 2 a 14 acc0) ?_ ?_
  · simp only [List.take_zero, opsS_nil]
    exact ⟨by simp [go_sem], by simp [go_sem], by simp [go_sem, hK0], hu, hba⟩
  clear hba hu
  rintro ρ W ⟨g0, g3, gp, hu, hba⟩
  simp only [List.drop_zero]
  refine opsS_cut 4 (CT w ba 2 a 18 (acc0 && (a.size_ == 0))) ?_ ?_
  · cases acc0 <;> simp [go_sem, CT, g0, g3, gp, hba, hu]
  clear g0 g3 gp hba hu
  rintro ρ W ⟨g0, g3, gp, hu, hba⟩
  obtain ⟨acc1, hK1⟩ : ∃ x, x = (acc0 && (a.size_ == 0)) := ⟨_, rfl⟩
  rw [← hK1] at gp
  simp only [List.drop_succ_cons, List.drop_zero]
  refine opsS_cut 6 (CT w ba 2 a 24 (acc1 && (a.challenge.1 == (zArr 8).1))) ?_ ?_
  · cases acc1 <;> simp [go_sem, CT, g0, g3, gp, hba, hu]
  clear g0 g3 gp hba hu
  rintro ρ W ⟨g0, g3, gp, hu, hba⟩
  rw [hK1, hK0, show ((a.dialect == 0 && a.size_ == 0) && a.challenge.1 == (zArr 8).1) = plainB a from rfl] at gp
  simp only [List.drop_succ_cons, List.drop_zero]
  simp [go_sem, g0, g3, gp]
  refine CallP.mono (talkKnown_any 2 (by decide) _) ?_
  rintro v W1 ⟨rfl, hW1⟩
  rw [hW1]; clear hW1; clear W1
  simp [go_sem, known8, hba, g0, g3, gp]
  refine CallP.mono (empty_any ok ha.lens) ?_
  rintro v W2 ⟨x, rfl, hx, u2⟩
  replace hu := hu.trans u2
  replace hba := u2.get hba (fun h => h)
  clear u2
  have hi := plain_iff ha
  cases x with
  | false =>
    have hA : ¬ sayFz.mkS (sayFz.unS A) = A := fun h => by have := hx.2 (hi.2 h).1; cases this
    simp [go_sem, g0, g3, gp]
    rw [sayFz.put_no hA]
    exact ⟨hu, rfl⟩
  | true =>
    have he := hx.1 rfl
    cases hp : plainB a with
    | false =>
      have hA : ¬ sayFz.mkS (sayFz.unS A) = A := fun h => by have := (hi.2 h).2; rw [hp] at this; cases this
      simp [go_sem, g0, g3, gp, hp]
      rw [sayFz.put_no hA]
      exact ⟨hu, rfl⟩
    | true =>
      have hA := hi.1 ⟨he, hp⟩
      have hz : a.size_ = 0 := by unfold plainB at hp; simp at hp; exact hp.1.2
      simp [go_sem, g0, g3, gp, hp, hba, hz, make4]
      rw [sayFz.put_ok hA rfl]
      refine ⟨hu.alloc _, ?_⟩
      show PutR _ _ _ ((zeroC 4).put ())
      rw [zero4_put]
      exact ⟨_, rfl, own_base (own4 W2) (by have := hu.size; omega)⟩
set_option maxHeartbeats 2000000 in
theorem talkPutSay3 {a : SayV} {A : SayS} (ha : SayAt w a A) (ok : a.ok) : CallP Tryz.prog 94 #[.int .u16 3, .agg a.cells] w (fun r w' => Upd noB w w' ∧ PutR w' w.heap.size r (sayFz.put A)) := by
  refine call_den (args := [_, _]) Tryz.func94 rfl rfl (by simp [Tryz.ntmps94]) ?_
  have hu : Upd noB w (w.alloc (.cells a.cells 39)) := (Upd.refl _ _).alloc _
  have hba : (w.alloc (.cells a.cells 39)).heap[w.heap.size]? = some (.cells a.cells 39 (0, 0)) := by rw [heap_alloc, if_pos rfl]
  obtain ⟨acc0, hK0⟩ : ∃ x, x = (a.dialect == 0) := ⟨_, rfl⟩
  simp [go_sem]
  generalize hq : w.heap.size = ba at hba ⊢
  refine opsS_cut 0 (CT w ba 3 a 14 acc0) ?_ ?_
  · simp only [List.take_zero, opsS_nil]
    exact ⟨by simp [go_sem], by simp [go_sem], by simp [go_sem, hK0], hu, hba⟩
  clear hba hu
  rintro ρ W ⟨g0, g3, gp, hu, hba⟩
  simp only [List.drop_zero]
  refine opsS_cut 4 (CT w ba 3 a 18 (acc0 && (a.size_ == 0))) ?_ ?_
  · cases acc0 <;> simp [go_sem, CT, g0, g3, gp, hba, hu]
  clear g0 g3 gp hba hu
  rintro ρ W ⟨g0, g3, gp, hu, hba⟩
  obtain ⟨acc1, hK1⟩ : ∃ x, x = (acc0 && (a.size_ == 0)) := ⟨_, rfl⟩
  rw [← hK1] at gp
  simp only [List.drop_succ_cons, List.drop_zero]
  refine opsS_cut 6 (CT w ba 3 a 24 (acc1 && (a.challenge.1 == (zArr 8).1))) ?_ ?_
  · cases acc1 <;> simp [go_sem, CT, g0, g3, gp, hba, hu]
  clear g0 g3 gp hba hu
  rintro ρ W ⟨g0, g3, gp, hu, hba⟩
  rw [hK1, hK0, show ((a.dialect == 0 && a.size_ == 0) && a.challenge.1 == (zArr 8).1) = plainB a from rfl] at gp
  simp only [List.drop_succ_cons, List.drop_zero]
  simp [go_sem, g0, g3, gp]
  refine CallP.mono (talkKnown_any 3 (by decide) _) ?_
  rintro v W1 ⟨rfl, hW1⟩
  rw [hW1]; clear hW1; clear W1
  simp [go_sem, known8, hba, g0, g3, gp]
  refine CallP.mono (empty_any ok ha.lens) ?_
  rintro v W2 ⟨x, rfl, hx, u2⟩
  replace hu := hu.trans u2
  replace hba := u2.get hba (fun h => h)
  clear u2
  have hi := plain_iff ha
  cases x with
  | false =>
    have hA : ¬ sayFz.mkS (sayFz.unS A) = A := fun h => by have := hx.2 (hi.2 h).1; cases this
    simp [go_sem, g0, g3, gp]
    rw [sayFz.put_no hA]
    exact ⟨hu, rfl⟩
  | true =>
    have he := hx.1 rfl
    cases hp : plainB a with
    | false =>
      have hA : ¬ sayFz.mkS (sayFz.unS A) = A := fun h => by have := (hi.2 h).2; rw [hp] at this; cases this
      simp [go_sem, g0, g3, gp, hp]
      rw [sayFz.put_no hA]
      exact ⟨hu, rfl⟩
    | true =>
      have hA := hi.1 ⟨he, hp⟩
      have hz : a.size_ = 0 := by unfold plainB at hp; simp at hp; exact hp.1.2
      simp [go_sem, g0, g3, gp, hp, hba, hz, make4]
      rw [sayFz.put_ok hA rfl]
      refine ⟨hu.alloc _, ?_⟩
      show PutR _ _ _ ((zeroC 4).put ())
      rw [zero4_put]
      exact ⟨_, rfl, own_base (own4 W2) (by have := hu.size; omega)⟩
set_option maxHeartbeats 2000000 in
theorem talkPutSay4 {a : SayV} {A : SayS} (ha : SayAt w a A) (ok : a.ok) : CallP Tryz.prog 94 #[.int .u16 4, .agg a.cells] w (fun r w' => Upd noB w w' ∧ PutR w' w.heap.size r (sayFz.put A)) := by
  refine call_den (args := [_, _]) Tryz.func94 rfl rfl (by simp [Tryz.ntmps94]) ?_
  have hu : Upd noB w (w.alloc (.cells a.cells 39)) := (Upd.refl _ _).alloc _
  have hba : (w.alloc (.cells a.cells 39)).heap[w.heap.size]? = some (.cells a.cells 39 (0, 0)) := by rw [heap_alloc, if_pos rfl]
  obtain ⟨acc0, hK0⟩ : ∃ x, x = (a.dialect == 0) := ⟨_, rfl⟩
  simp [go_sem]
  generalize hq : w.heap.size = ba at hba ⊢
  refine opsS_cut 0 (CT w ba 4 a 14 acc0) ?_ ?_
  · simp only [List.take_zero, opsS_nil]
    exact ⟨by simp [go_sem], by simp [go_sem], by simp [go_sem, hK0], hu, hba⟩
  clear hba hu
  rintro ρ W ⟨g0, g3, gp, hu, hba⟩
  simp only [List.drop_zero]
  refine opsS_cut 4 (CT w ba 4 a 18 (acc0 && (a.size_ == 0))) ?_ ?_
  · cases acc0 <;> simp [go_sem, CT, g0, g3, gp, hba, hu]
  clear g0 g3 gp hba hu
  rintro ρ W ⟨g0, g3, gp, hu, hba⟩
  obtain ⟨acc1, hK1⟩ : ∃ x, x = (acc0 && (a.size_ == 0)) := ⟨_, rfl⟩
  rw [← hK1] at gp
  simp only [List.drop_succ_cons, List.drop_zero]
  refine opsS_cut 6 (CT w ba 4 a 24 (acc1 && (a.challenge.1 == (zArr 8).1))) ?_ ?_
  · cases acc1 <;> simp [go_sem, CT, g0, g3, gp, hba, hu]
  clear g0 g3 gp hba hu
  rintro ρ W ⟨g0, g3, gp, hu, hba⟩
  rw [hK1, hK0, show ((a.dialect == 0 && a.size_ == 0) && a.challenge.1 == (zArr 8).1) = plainB a from rfl] at gp
  simp only [List.drop_succ_cons, List.drop_zero]
  simp [go_sem, g0, g3, gp]
  refine CallP.mono (talkKnown_any 4 (by decide) _) ?_
  rintro v W1 ⟨rfl, hW1⟩
  rw [hW1]; clear hW1; clear W1
  simp [go_sem, known8, hba, g0, g3, gp]
  refine CallP.mono (empty_any ok ha.lens) ?_
  rintro v W2 ⟨x, rfl, hx, u2⟩
  replace hu := hu.trans u2
  replace hba := u2.get hba (fun h => h)
  clear u2
  have hi := plain_iff ha
  cases x with
  | false =>
    have hA : ¬ sayFz.mkS (sayFz.unS A) = A := fun h => by have := hx.2 (hi.2 h).1; cases this
    simp [go_sem, g0, g3, gp]
    rw [sayFz.put_no hA]
    exact ⟨hu, rfl⟩
  | true =>
    have he := hx.1 rfl
    cases hp : plainB a with
    | false =>
      have hA : ¬ sayFz.mkS (sayFz.unS A) = A := fun h => by have := (hi.2 h).2; rw [hp] at this; cases this
      simp [go_sem, g0, g3, gp, hp]
      rw [sayFz.put_no hA]
      exact ⟨hu, rfl⟩
    | true =>
      have hA := hi.1 ⟨he, hp⟩
      have hz : a.size_ = 0 := by unfold plainB at hp; simp at hp; exact hp.1.2
      simp [go_sem, g0, g3, gp, hp, hba, hz, make4]
      rw [sayFz.put_ok hA rfl]
      refine ⟨hu.alloc _, ?_⟩
      show PutR _ _ _ ((zeroC 4).put ())
      rw [zero4_put]
      exact ⟨_, rfl, own_base (own4 W2) (by have := hu.size; omega)⟩
set_option maxHeartbeats 2000000 in
theorem talkPutSay13 {a : SayV} {A : SayS} (ha : SayAt w a A) (ok : a.ok) : CallP Tryz.prog 94 #[.int .u16 13, .agg a.cells] w (fun r w' => Upd noB w w' ∧ PutR w' w.heap.size r (sayFz.put A)) := by
  refine call_den (args := [_, _]) Tryz.func94 rfl rfl (by simp [Tryz.ntmps94]) ?_
  have hu : Upd noB w (w.alloc (.cells a.cells 39)) := (Upd.refl _ _).alloc _
  have hba : (w.alloc (.cells a.cells 39)).heap[w.heap.size]? = some (.cells a.cells 39 (0, 0)) := by rw [heap_alloc, if_pos rfl]
  obtain ⟨acc0, hK0⟩ : ∃ x, x = (a.dialect == 0) := ⟨_, rfl⟩
  simp [go_sem]
  generalize hq : w.heap.size = ba at hba ⊢
  refine opsS_cut 0 (CT w ba 13 a 14 acc0) ?_ ?_
  · simp only [List.take_zero, opsS_nil]
    exact ⟨by simp [go_sem], by simp [go_sem], by simp [go_sem, hK0], hu, hba⟩
  clear hba hu
  rintro ρ W ⟨g0, g3, gp, hu, hba⟩
  simp only [List.drop_zero]
  refine opsS_cut 4 (CT w ba 13 a 18 (acc0 && (a.size_ == 0))) ?_ ?_
  · cases acc0 <;> simp [go_sem, CT, g0, g3, gp, hba, hu]
  clear g0 g3 gp hba hu
  rintro ρ W ⟨g0, g3, gp, hu, hba⟩
  obtain ⟨acc1, hK1⟩ : ∃ x, x = (acc0 && (a.size_ == 0)) := ⟨_, rfl⟩
  rw [← hK1] at gp
  simp only [List.drop_succ_cons, List.drop_zero]
  refine opsS_cut 6 (CT w ba 13 a 24 (acc1 && (a.challenge.1 == (zArr 8).1))) ?_ ?_
  · cases acc1 <;> simp [go_sem, CT, g0, g3, gp, hba, hu]
  clear g0 g3 gp hba hu
  rintro ρ W ⟨g0, g3, gp, hu, hba⟩
  rw [hK1, hK0, show ((a.dialect == 0 && a.size_ == 0) && a.challenge.1 == (zArr 8).1) = plainB a from rfl] at gp
  simp only [List.drop_succ_cons, List.drop_zero]
  simp [go_sem, g0, g3, gp]
  refine CallP.mono (talkKnown_any 13 (by decide) _) ?_
  rintro v W1 ⟨rfl, hW1⟩
  rw [hW1]; clear hW1; clear W1
  simp [go_sem, known8, hba, g0, g3, gp]
  refine CallP.mono (empty_any ok ha.lens) ?_
  rintro v W2 ⟨x, rfl, hx, u2⟩
  replace hu := hu.trans u2
  replace hba := u2.get hba (fun h => h)
  clear u2
  have hi := plain_iff ha
  cases x with
  | false =>
    have hA : ¬ sayFz.mkS (sayFz.unS A) = A := fun h => by have := hx.2 (hi.2 h).1; cases this
    simp [go_sem, g0, g3, gp]
    rw [sayFz.put_no hA]
    exact ⟨hu, rfl⟩
  | true =>
    have he := hx.1 rfl
    cases hp : plainB a with
    | false =>
      have hA : ¬ sayFz.mkS (sayFz.unS A) = A := fun h => by have := (hi.2 h).2; rw [hp] at this; cases this
      simp [go_sem, g0, g3, gp, hp]
      rw [sayFz.put_no hA]
      exact ⟨hu, rfl⟩
    | true =>
      have hA := hi.1 ⟨he, hp⟩
      have hz : a.size_ = 0 := by unfold plainB at hp; simp at hp; exact hp.1.2
      simp [go_sem, g0, g3, gp, hp, hba, hz, make4]
      rw [sayFz.put_ok hA rfl]
      refine ⟨hu.alloc _, ?_⟩
      show PutR _ _ _ ((zeroC 4).put ())
      rw [zero4_put]
      exact ⟨_, rfl, own_base (own4 W2) (by have := hu.size; omega)⟩
set_option maxHeartbeats 2000000 in
theorem talkPutSay0 {a : SayV} {A : SayS} (ha : SayAt w a A) (ok : a.ok) : CallP Tryz.prog 94 #[.int .u16 0, .agg a.cells] w (fun r w' => Upd noB w w' ∧ PutR w' w.heap.size r (sayF0.put A)) := by
  refine call_den (args := [_, _]) Tryz.func94 rfl rfl (by simp [Tryz.ntmps94]) ?_
  have hu : Upd noB w (w.alloc (.cells a.cells 39)) := (Upd.refl _ _).alloc _
  have hba : (w.alloc (.cells a.cells 39)).heap[w.heap.size]? = some (.cells a.cells 39 (0, 0)) := by rw [heap_alloc, if_pos rfl]
  obtain ⟨acc0, hK0⟩ : ∃ x, x = (a.dialect == 0) := ⟨_, rfl⟩
  simp [go_sem]
  generalize hq : w.heap.size = ba at hba ⊢
  refine opsS_cut 0 (CT w ba 0 a 14 acc0) ?_ ?_
  · simp only [List.take_zero, opsS_nil]
    exact ⟨by simp [go_sem], by simp [go_sem], by simp [go_sem, hK0], hu, hba⟩
  clear hba hu
  rintro ρ W ⟨g0, g3, gp, hu, hba⟩
  simp only [List.drop_zero]
  refine opsS_cut 4 (CT w ba 0 a 18 (acc0 && (a.size_ == 0))) ?_ ?_
  · cases acc0 <;> simp [go_sem, CT, g0, g3, gp, hba, hu]
  clear g0 g3 gp hba hu
  rintro ρ W ⟨g0, g3, gp, hu, hba⟩
  obtain ⟨acc1, hK1⟩ : ∃ x, x = (acc0 && (a.size_ == 0)) := ⟨_, rfl⟩
  rw [← hK1] at gp
  simp only [List.drop_succ_cons, List.drop_zero]
  refine opsS_cut 6 (CT w ba 0 a 24 (acc1 && (a.challenge.1 == (zArr 8).1))) ?_ ?_
  · cases acc1 <;> simp [go_sem, CT, g0, g3, gp, hba, hu]
  clear g0 g3 gp hba hu
  rintro ρ W ⟨g0, g3, gp, hu, hba⟩
  rw [hK1, hK0, show ((a.dialect == 0 && a.size_ == 0) && a.challenge.1 == (zArr 8).1) = plainB a from rfl] at gp
  simp only [List.drop_succ_cons, List.drop_zero]
  simp [go_sem, g0, g3, gp]
  refine CallP.mono (talkKnown_any 0 (by decide) _) ?_
  rintro v W1 ⟨rfl, hW1⟩
  rw [hW1]; clear hW1; clear W1
  simp [go_sem, known8, hba, g0, g3, gp]
  refine CallP.mono (empty_any ok ha.lens) ?_
  rintro v W2 ⟨x, rfl, hx, u2⟩
  replace hu := hu.trans u2
  replace hba := u2.get hba (fun h => h)
  clear u2
  have hi := empty_iff ha
  cases x with
  | false =>
    have hA : ¬ sayF0.mkS (sayF0.unS A) = A := fun h => by have := hx.2 (hi.2 h); cases this
    simp [go_sem, g0, g3, gp]
    rw [sayF0.put_no hA]
    exact ⟨hu, rfl⟩
  | true =>
    have hA := hi.1 (hx.1 rfl)
    have hs := ok.size_
    have hd := ok.dialect
    have hput : sayF0.put A = (seqC (numC 2) fun _ => seqC (zeroC 2) fun _ => seqC (numC 4) fun _ => arrC 8).put (a.dialect, (), a.size_, a.challenge) := by
      rw [sayF0.put_ok hA rfl]
      show (seqC (numC 2) fun _ => seqC (zeroC 2) fun _ => seqC (numC 4) fun _ => arrC 8).put (A.f.dialect, (), A.f.size_, A.f.challenge) = _
      rw [ha.f]
      rfl
    rw [hput]
    by_cases hb : a.size_ < 4294967296
    · have hq0 : a.size_ / 4294967296 = 0 := by omega
      have c1 : IntKind.u64.wrap a.dialect = a.dialect := wrap64 (by omega) (by omega)
      simp [go_sem, g0, g3, gp, hba, hq0, c1]
      refine CallP.mono (endsPut_z (k := 4) (by decide) (by omega) (by omega) _) ?_
      rintro r W3 ⟨v1, rfl, u3, own1⟩
      replace hba := u3.get hba (fun h => h)
      simp [go_sem, g0, g3, hba]
      refine CallP.mono (endsPut_z (k := 4) (by decide) hs.1 (by omega) _) ?_
      rintro r W4 ⟨v2, rfl, u4, own2⟩
      replace hba := u4.get hba (fun h => h)
      replace own1 : OwnB W4 W2.heap.size v1 (leB a.dialect.toNat 4) := own_keep0 own1 u4
      obtain ⟨p1, n1, c1', rfl⟩ := OwnB.slice own1
      obtain ⟨p2, n2, c2', rfl⟩ := OwnB.slice own2
      have hp := Parts.of (w := W4) [.slice p1 n1 c1', .slice p2 n2 c2', .slice (some ⟨ba, 2, none⟩) 8 8] [leB a.dialect.toNat 4, leB a.size_.toNat 4, a.challenge.1] rfl (by
        intro i v l h1 h2
        obtain rfl | rfl | rfl | h : i = 0 ∨ i = 1 ∨ i = 2 ∨ 3 ≤ i := by omega
        · cases h1; cases h2; exact own1.at
        · cases h1; cases h2; exact own2.at
        · cases h1; cases h2; exact chal_at hba
        · rw [List.getElem?_eq_none (by simpa using h)] at h1; cases h1)
      have hl := a.challenge.2
      have hsum : sumL [leB a.dialect.toNat 4, leB a.size_.toNat 4, a.challenge.1] = 16 := by simp [sumL, hl, leB_len]
      simp [go_sem, g0, g3, hba, bb3]
      refine gen_call ?_
      intro Wb hWb
      have ub : Upd noB W4 Wb := by rw [hWb]; exact (Upd.refl _ _).alloc _
      rw [← hWb] at hp
      clear hWb
      generalize W4.heap.size = bb at hp ⊢
      have hcc := concat_any hp (by omega) (by omega) (by simp)
      simp only [List.length_cons, List.length_nil, Nat.zero_add, Nat.reduceAdd] at hcc
      refine CallP.mono hcc ?_
      rintro v W5 ⟨u5, own5⟩
      simp [go_sem]
      have hall := ((hu.trans u3).trans u4).trans ub
      refine ⟨hall.trans u5, ?_⟩
      have hpp : (seqC (numC 2) fun _ => seqC (zeroC 2) fun _ => seqC (numC 4) fun _ => arrC 8).put (a.dialect, (), a.size_, a.challenge) = .ok (leB a.dialect.toNat 2 ++ (leB 0 2 ++ (leB a.size_.toNat 4 ++ a.challenge.1))) :=
        seq_put (D := fun _ => _) (num_put hd.1 hd.2) (seq_put (D := fun _ => _) zero2_put (seq_put (D := fun _ => _) (num_put hs.1 hb) rfl))
      rw [hpp]
      refine ⟨v, rfl, ?_⟩
      have e : [leB a.dialect.toNat 4, leB a.size_.toNat 4, a.challenge.1].flatten = leB a.dialect.toNat 2 ++ (leB 0 2 ++ (leB a.size_.toNat 4 ++ a.challenge.1)) := by
        rw [leB_4 _ (by omega)]; simp
      rw [e] at own5
      exact own_base own5 (by have := hall.size; omega)
    · have hq0 : ¬ a.size_ / 4294967296 = 0 := by omega
      simp [go_sem, g0, g3, gp, hba, hq0]
      have hn : (numC 4).put a.size_ = .error 2 := by show (if _ then _ else _) = _; rw [if_neg (fun h => hb (by simpa using h.2))]
      have hpp : (seqC (numC 2) fun _ => seqC (zeroC 2) fun _ => seqC (numC 4) fun _ => arrC 8).put (a.dialect, (), a.size_, a.challenge) = .error 2 :=
        seq_putE (num_put hd.1 hd.2) (seq_putE zero2_put (seq_putF hn))
      rw [hpp]
      exact ⟨hu, rfl⟩
end Go.Proofs.YtinfdomlpbikaaaGreatDoor
namespace Go.Proofs.YtinfdomlpbikaaaGreatDoor
open Go.Eng Go.Lib
set_option linter.unusedSimpArgs false
set_option linter.unusedVariables false
set_option maxRecDepth 100000
variable {w w0 : World}
/-- the same in every field, where the lists are none, or those of the other -/
theorem same_iff {a X : AskV} {A S : AskS} (ha : AskAt w a A) (hf : S.f = X.bare) (hd : (X.dialects = ⟨none, 0, 0⟩ ∧ S.dia = []) ∨ (X.dialects = a.dialects ∧ S.dia = A.dia)) (ht : (X.data = ⟨none, 0, 0⟩ ∧ S.dat = []) ∨ (X.data = a.data ∧ S.dat = A.dat)) (hl : (X.locks = ⟨none, 0, 0⟩ ∧ S.lok = []) ∨ (X.locks = a.locks ∧ S.lok = A.lok)) : SameN X a ↔ S = A := by
  obtain ⟨n1, n2, n3⟩ := ha.nums
  have z : ∀ {α : Type} {L : List α} {n : Nat}, n = L.length → (0 = n ↔ [] = L) := by
    intro α L n h
    subst h
    exact ⟨fun e => (List.length_eq_zero_iff.1 e.symm).symm, fun e => by rw [← e]; rfl⟩
  have e1 : X.dialects.n = a.dialects.n ↔ S.dia = A.dia := by
    rcases hd with ⟨h1, h2⟩ | ⟨h1, h2⟩
    · rw [h1, h2]; exact z n1
    · rw [h1, h2]; exact ⟨fun _ => rfl, fun _ => rfl⟩
  have e2 : X.data.n = a.data.n ↔ S.dat = A.dat := by
    rcases ht with ⟨h1, h2⟩ | ⟨h1, h2⟩
    · rw [h1, h2]; exact z n2
    · rw [h1, h2]; exact ⟨fun _ => rfl, fun _ => rfl⟩
  have e3 : X.locks.n = a.locks.n ↔ S.lok = A.lok := by
    rcases hl with ⟨h1, h2⟩ | ⟨h1, h2⟩
    · rw [h1, h2]; exact z n3
    · rw [h1, h2]; exact ⟨fun _ => rfl, fun _ => rfl⟩
  unfold SameN
  rw [e1, e2, e3, ← hf, ← ha.f]
  constructor
  · rintro ⟨h1, h2, h3, h4⟩
    cases S; cases A
    simp only at *
    rw [h1, h2, h3, h4]
  · rintro rfl
    exact ⟨rfl, rfl, rfl, rfl⟩
structure FQ (w wb W : World) (ba bw : Nat) (a : AskV) (l : List UInt8) : Prop where
  I : WrI wb W bw wb.heap.size 135 l
  u : Upd noB w wb
  q : wb.heap[ba]? = some (.cells a.cells 34 (0, 0))
  ne : ba ≠ bw ∧ w.heap.size ≤ bw
theorem FQ.qa {w wb W : World} {ba bw : Nat} {a : AskV} {l : List UInt8} (h : FQ w wb W ba bw a l) : W.heap[ba]? = some (.cells a.cells 34 (0, 0)) := h.I.u.get h.q h.ne.1
theorem FQ.all {w wb W : World} {ba bw : Nat} {a : AskV} {l : List UInt8} (h : FQ w wb W ba bw a l) : Upd noB w W := h.u.trans' h.I.u (fun i hi hlt => by have := h.ne.2; omega)
theorem FQ.n {w wb W : World} {ba bw : Nat} {a : AskV} {l : List UInt8} {z : Int} {k : Nat} (h : FQ w wb W ba bw a l) (hk : sizeOk k) (h0 : 0 ≤ z) (h1 : z < 256 ^ k) (hl : l.length ≤ 1099511627776) :
    CallP Tryz.prog 119 #[.pointer (some ⟨bw, 0, none⟩), .int .u64 z, .int .i64 k] W (fun r w' => FQ w wb w' ba bw a (l ++ leB z.toNat k)) :=
  CallP.mono (fileW h.I hk h0 h1 hl) (fun _ _ I => ⟨I, h.u, h.q, h.ne⟩)
set_option maxHeartbeats 2000000 in
theorem filePutAsk6 {a : AskV} {A : AskS} (ha : AskAt w a A) (ok : a.ok) : CallP Tryz.prog 84 #[.int .u16 6, .agg a.cells] w (fun r w' => Upd noB w w' ∧ PutR w' w.heap.size r (askFf.put A)) := by
  have hS : SameN (AskV.mk zeroA.dialects zeroA.guid zeroA.proof zeroA.user zeroA.share zeroA.access zeroA.sharing zeroA.way zeroA.options zeroA.level zeroA.durable a.file zeroA.name zeroA.at_ zeroA.n zeroA.data zeroA.locks zeroA.most zeroA.pattern zeroA.after zeroA.cls zeroA.size_ zeroA.on) a ↔ askFf.mkS (askFf.unS A) = A := same_iff ha (by unfold askFf; simp only [ha.f]; rfl) (Or.inl ⟨rfl, rfl⟩) (Or.inl ⟨rfl, rfl⟩) (Or.inl ⟨rfl, rfl⟩)
  refine call_den (args := [_, _]) Tryz.func84 rfl rfl (by simp [Tryz.ntmps84]) ?_
  simp [go_sem]
  refine gen_draw ?_
  intro W hW
  have hu : Upd noB w W := by rw [hW]; exact (by repeat (first | exact Upd.refl _ _ | refine Upd.alloc ?_ _ | refine Upd.drew ?_ | refine Upd.drewN ?_ _ | refine Upd.setB ?_ _ _ (fun h => absurd h (by omega))))
  have qa : AskS0 w.heap.size a W := by unfold AskS0; rw [hW, heap_alloc, if_pos rfl]
  clear hW
  generalize hba : w.heap.size = ba at qa ⊢
  refine Go.Eng.Ch.draw_script [.pure 0, .one 1, .one 2, .pure 3, .pure 4, .chain [5, 7] [6], .one 8, .one 9, .one 10] (by kernel_rfl) (by kernel_rfl) (by kernel_rfl) ?_
  simp [go_sem]
  replace hu := hu.drew
  have qa' : AskS0 ba a W.drew := qa
  refine CallP.mono (fileKnown_any _ _) ?_
  rintro v W1 ⟨rfl, hW1⟩
  replace hu : Upd noB w W1 := by rw [hW1]; exact hu
  replace qa : AskS0 ba a W1 := by rw [hW1]; exact qa'
  clear hW1 qa'
  simp [go_sem, known9]
  haveI : Nonempty { W : World // AskS0 ba a W } := ⟨⟨W1, qa⟩⟩
  have ql := Q_load_fix (P := Tryz.prog) (W := fun i : { W : World // AskS0 ba a W } => i.1) (fun i => i.2.load)
  refine Go.Eng.Ch.opsPh_chain _ _ (AskS0 ba a) qa ?_
  simp [go_sem, ql]
  refine CallP.mono (fileAsked6 a _) ?_
  rintro v W2 ⟨rfl, u2⟩
  replace hu := hu.trans u2
  replace qa : AskS0 ba a W2 := u2.get qa (fun h => h)
  simp [go_sem, Go.Eng.Ch.contJ_app qa]
  refine CallP.mono fileSame_any ?_
  rintro v W3 ⟨x, rfl, hx, u3⟩
  replace hx := hx.trans hS
  replace hu := hu.trans u3
  replace qa : AskS0 ba a W3 := u3.get qa (fun h => h)
  clear u2 u3
  cases x with
  | false =>
    have hA : ¬ askFf.mkS (askFf.unS A) = A := fun h => by have := hx.2 h; cases this
    simp [go_sem, Go.Eng.Ch.contJ_app qa]
    rw [askFf.put_no hA]
    exact ⟨hu, rfl⟩
  | true =>
    have hA := hx.1 rfl
    have hlok : A.lok = [] := by rw [← hA]; rfl
    have hdat : A.dat = [] := by rw [← hA]; rfl
    have hnd : a.data.n = 0 := by rw [ha.nums.2.1, hdat]; rfl
    have hnl : a.locks.n = 0 := by rw [ha.nums.2.2, hlok]; rfl
    have qh : W3.heap[ba]? = some (.cells a.cells 34 (0, 0)) := qa
    simp [go_sem, Go.Eng.Ch.contJ_app qa, qh]
    refine den_loop (fun _ ρ W => W = W3 ∧ ρ 25 = .int .i64 0 ∧ ρ 24 = .int .i64 0 ∧ ρ 3 = .pointer (some ⟨ba, 0, none⟩) ∧ ρ 0 = .int .u16 6) 0 ⟨rfl, by simp [go_sem], by simp [go_sem, hnl], by simp [go_sem], by simp [go_sem]⟩ ?_
    rintro m ρ W ⟨rfl, g25, g24, g3, g0⟩
    simp [go_sem, g25, g24, g3, g0, qh, hnl, hnd]
    refine gen_load ?_
    intro Wb hWb
    have hq : Wb.heap[ba]? = some (.cells a.cells 34 (0, 0)) := by rw [hWb, heap_alloc, if_neg (by have := (Array.getElem?_eq_some_iff.1 qh).1; omega)]; exact qh
    have hc : Wb.heap[W.heap.size]? = some (.cells #[.slice none 0 0] 135 (0, 0)) := by rw [hWb, heap_alloc, if_pos rfl]
    have hsz : Wb.heap.size = W.heap.size + 1 := by rw [hWb]; simp
    have hub : Upd noB w Wb := by rw [hWb]; exact hu.alloc _
    have hne : ba ≠ W.heap.size := by have := (Array.getElem?_eq_some_iff.1 qh).1; omega
    have g : FQ w Wb Wb ba W.heap.size a [] := ⟨⟨Upd.refl _ _, ⟨by omega, rfl⟩, none, 0, 0, hc, nil_own _ _⟩, hub, hq, hne, hu.size⟩
    clear hq hc hsz hub hWb
    generalize W.heap.size = bw at g ⊢
    have qa := g.qa
    simp [go_sem, g25, g24, g3, g0, qa]
    refine CallP.mono (g.n (k := 8) (by decide) ok.file.1 ok.file.2 (by simp [leB_len]; try omega)) ?_
    clear qa g
    rintro v W4 g
    have qa := g.qa
    have hput : askFf.put A = .ok (leB a.file.toNat 8) := by
      rw [askFf.put_ok hA rfl]
      have e : askFf.unS A = a.file := by unfold askFf; simp only [ha.f]; rfl
      rw [e]
      exact num_put ok.file.1 ok.file.2
    obtain ⟨p, n, c, hc, own⟩ := g.I.cell
    simp [go_sem, g25, g24, g3, g0, hc]
    rw [hput]
    refine ⟨g.all, _, rfl, ?_⟩
    simp only [List.append_assoc, List.nil_append] at own
    exact own_base own (by have := g.u.size; omega)
set_option maxHeartbeats 2000000 in
theorem filePutAsk7 {a : AskV} {A : AskS} (ha : AskAt w a A) (ok : a.ok) : CallP Tryz.prog 84 #[.int .u16 7, .agg a.cells] w (fun r w' => Upd noB w w' ∧ PutR w' w.heap.size r (askFf.put A)) := by
  have hS : SameN (AskV.mk zeroA.dialects zeroA.guid zeroA.proof zeroA.user zeroA.share zeroA.access zeroA.sharing zeroA.way zeroA.options zeroA.level zeroA.durable a.file zeroA.name zeroA.at_ zeroA.n zeroA.data zeroA.locks zeroA.most zeroA.pattern zeroA.after zeroA.cls zeroA.size_ zeroA.on) a ↔ askFf.mkS (askFf.unS A) = A := same_iff ha (by unfold askFf; simp only [ha.f]; rfl) (Or.inl ⟨rfl, rfl⟩) (Or.inl ⟨rfl, rfl⟩) (Or.inl ⟨rfl, rfl⟩)
  refine call_den (args := [_, _]) Tryz.func84 rfl rfl (by simp [Tryz.ntmps84]) ?_
  simp [go_sem]
  refine gen_draw ?_
  intro W hW
  have hu : Upd noB w W := by rw [hW]; exact (by repeat (first | exact Upd.refl _ _ | refine Upd.alloc ?_ _ | refine Upd.drew ?_ | refine Upd.drewN ?_ _ | refine Upd.setB ?_ _ _ (fun h => absurd h (by omega))))
  have qa : AskS0 w.heap.size a W := by unfold AskS0; rw [hW, heap_alloc, if_pos rfl]
  clear hW
  generalize hba : w.heap.size = ba at qa ⊢
  refine Go.Eng.Ch.draw_script [.pure 0, .one 1, .one 2, .pure 3, .pure 4, .chain [5, 7] [6], .one 8, .one 9, .one 10] (by kernel_rfl) (by kernel_rfl) (by kernel_rfl) ?_
  simp [go_sem]
  replace hu := hu.drew
  have qa' : AskS0 ba a W.drew := qa
  refine CallP.mono (fileKnown_any _ _) ?_
  rintro v W1 ⟨rfl, hW1⟩
  replace hu : Upd noB w W1 := by rw [hW1]; exact hu
  replace qa : AskS0 ba a W1 := by rw [hW1]; exact qa'
  clear hW1 qa'
  simp [go_sem, known9]
  haveI : Nonempty { W : World // AskS0 ba a W } := ⟨⟨W1, qa⟩⟩
  have ql := Q_load_fix (P := Tryz.prog) (W := fun i : { W : World // AskS0 ba a W } => i.1) (fun i => i.2.load)
  refine Go.Eng.Ch.opsPh_chain _ _ (AskS0 ba a) qa ?_
  simp [go_sem, ql]
  refine CallP.mono (fileAsked7 a _) ?_
  rintro v W2 ⟨rfl, u2⟩
  replace hu := hu.trans u2
  replace qa : AskS0 ba a W2 := u2.get qa (fun h => h)
  simp [go_sem, Go.Eng.Ch.contJ_app qa]
  refine CallP.mono fileSame_any ?_
  rintro v W3 ⟨x, rfl, hx, u3⟩
  replace hx := hx.trans hS
  replace hu := hu.trans u3
  replace qa : AskS0 ba a W3 := u3.get qa (fun h => h)
  clear u2 u3
  cases x with
  | false =>
    have hA : ¬ askFf.mkS (askFf.unS A) = A := fun h => by have := hx.2 h; cases this
    simp [go_sem, Go.Eng.Ch.contJ_app qa]
    rw [askFf.put_no hA]
    exact ⟨hu, rfl⟩
  | true =>
    have hA := hx.1 rfl
    have hlok : A.lok = [] := by rw [← hA]; rfl
    have hdat : A.dat = [] := by rw [← hA]; rfl
    have hnd : a.data.n = 0 := by rw [ha.nums.2.1, hdat]; rfl
    have hnl : a.locks.n = 0 := by rw [ha.nums.2.2, hlok]; rfl
    have qh : W3.heap[ba]? = some (.cells a.cells 34 (0, 0)) := qa
    simp [go_sem, Go.Eng.Ch.contJ_app qa, qh]
    refine den_loop (fun _ ρ W => W = W3 ∧ ρ 25 = .int .i64 0 ∧ ρ 24 = .int .i64 0 ∧ ρ 3 = .pointer (some ⟨ba, 0, none⟩) ∧ ρ 0 = .int .u16 7) 0 ⟨rfl, by simp [go_sem], by simp [go_sem, hnl], by simp [go_sem], by simp [go_sem]⟩ ?_
    rintro m ρ W ⟨rfl, g25, g24, g3, g0⟩
    simp [go_sem, g25, g24, g3, g0, qh, hnl, hnd]
    refine gen_load ?_
    intro Wb hWb
    have hq : Wb.heap[ba]? = some (.cells a.cells 34 (0, 0)) := by rw [hWb, heap_alloc, if_neg (by have := (Array.getElem?_eq_some_iff.1 qh).1; omega)]; exact qh
    have hc : Wb.heap[W.heap.size]? = some (.cells #[.slice none 0 0] 135 (0, 0)) := by rw [hWb, heap_alloc, if_pos rfl]
    have hsz : Wb.heap.size = W.heap.size + 1 := by rw [hWb]; simp
    have hub : Upd noB w Wb := by rw [hWb]; exact hu.alloc _
    have hne : ba ≠ W.heap.size := by have := (Array.getElem?_eq_some_iff.1 qh).1; omega
    have g : FQ w Wb Wb ba W.heap.size a [] := ⟨⟨Upd.refl _ _, ⟨by omega, rfl⟩, none, 0, 0, hc, nil_own _ _⟩, hub, hq, hne, hu.size⟩
    clear hq hc hsz hub hWb
    generalize W.heap.size = bw at g ⊢
    have qa := g.qa
    simp [go_sem, g25, g24, g3, g0, qa]
    refine CallP.mono (g.n (k := 8) (by decide) ok.file.1 ok.file.2 (by simp [leB_len]; try omega)) ?_
    clear qa g
    rintro v W4 g
    have qa := g.qa
    have hput : askFf.put A = .ok (leB a.file.toNat 8) := by
      rw [askFf.put_ok hA rfl]
      have e : askFf.unS A = a.file := by unfold askFf; simp only [ha.f]; rfl
      rw [e]
      exact num_put ok.file.1 ok.file.2
    obtain ⟨p, n, c, hc, own⟩ := g.I.cell
    simp [go_sem, g25, g24, g3, g0, hc]
    rw [hput]
    refine ⟨g.all, _, rfl, ?_⟩
    simp only [List.append_assoc, List.nil_append] at own
    exact own_base own (by have := g.u.size; omega)
set_option maxHeartbeats 2000000 in
theorem filePutAsk8 {a : AskV} {A : AskS} (ha : AskAt w a A) (ok : a.ok) : CallP Tryz.prog 84 #[.int .u16 8, .agg a.cells] w (fun r w' => Upd noB w w' ∧ PutR w' w.heap.size r (askF8.put A)) := by
  have hS : SameN (AskV.mk zeroA.dialects zeroA.guid zeroA.proof zeroA.user zeroA.share zeroA.access zeroA.sharing zeroA.way zeroA.options zeroA.level zeroA.durable a.file zeroA.name a.at_ a.n zeroA.data zeroA.locks zeroA.most zeroA.pattern zeroA.after zeroA.cls zeroA.size_ zeroA.on) a ↔ askF8.mkS (askF8.unS A) = A := same_iff ha (by unfold askF8; simp only [ha.f]; rfl) (Or.inl ⟨rfl, rfl⟩) (Or.inl ⟨rfl, rfl⟩) (Or.inl ⟨rfl, rfl⟩)
  refine call_den (args := [_, _]) Tryz.func84 rfl rfl (by simp [Tryz.ntmps84]) ?_
  simp [go_sem]
  refine gen_draw ?_
  intro W hW
  have hu : Upd noB w W := by rw [hW]; exact (by repeat (first | exact Upd.refl _ _ | refine Upd.alloc ?_ _ | refine Upd.drew ?_ | refine Upd.drewN ?_ _ | refine Upd.setB ?_ _ _ (fun h => absurd h (by omega))))
  have qa : AskS0 w.heap.size a W := by unfold AskS0; rw [hW, heap_alloc, if_pos rfl]
  clear hW
  generalize hba : w.heap.size = ba at qa ⊢
  refine Go.Eng.Ch.draw_script [.pure 0, .one 1, .one 2, .pure 3, .pure 4, .chain [5, 7] [6], .one 8, .one 9, .one 10] (by kernel_rfl) (by kernel_rfl) (by kernel_rfl) ?_
  simp [go_sem]
  replace hu := hu.drew
  have qa' : AskS0 ba a W.drew := qa
  refine CallP.mono (fileKnown_any _ _) ?_
  rintro v W1 ⟨rfl, hW1⟩
  replace hu : Upd noB w W1 := by rw [hW1]; exact hu
  replace qa : AskS0 ba a W1 := by rw [hW1]; exact qa'
  clear hW1 qa'
  simp [go_sem, known9]
  haveI : Nonempty { W : World // AskS0 ba a W } := ⟨⟨W1, qa⟩⟩
  have ql := Q_load_fix (P := Tryz.prog) (W := fun i : { W : World // AskS0 ba a W } => i.1) (fun i => i.2.load)
  refine Go.Eng.Ch.opsPh_chain _ _ (AskS0 ba a) qa ?_
  simp [go_sem, ql]
  refine CallP.mono (fileAsked8 a _) ?_
  rintro v W2 ⟨rfl, u2⟩
  replace hu := hu.trans u2
  replace qa : AskS0 ba a W2 := u2.get qa (fun h => h)
  simp [go_sem, Go.Eng.Ch.contJ_app qa]
  refine CallP.mono fileSame_any ?_
  rintro v W3 ⟨x, rfl, hx, u3⟩
  replace hx := hx.trans hS
  replace hu := hu.trans u3
  replace qa : AskS0 ba a W3 := u3.get qa (fun h => h)
  clear u2 u3
  cases x with
  | false =>
    have hA : ¬ askF8.mkS (askF8.unS A) = A := fun h => by have := hx.2 h; cases this
    simp [go_sem, Go.Eng.Ch.contJ_app qa]
    rw [askF8.put_no hA]
    exact ⟨hu, rfl⟩
  | true =>
    have hA := hx.1 rfl
    have hlok : A.lok = [] := by rw [← hA]; rfl
    have hdat : A.dat = [] := by rw [← hA]; rfl
    have hnd : a.data.n = 0 := by rw [ha.nums.2.1, hdat]; rfl
    have hnl : a.locks.n = 0 := by rw [ha.nums.2.2, hlok]; rfl
    have qh : W3.heap[ba]? = some (.cells a.cells 34 (0, 0)) := qa
    simp [go_sem, Go.Eng.Ch.contJ_app qa, qh]
    refine den_loop (fun _ ρ W => W = W3 ∧ ρ 25 = .int .i64 0 ∧ ρ 24 = .int .i64 0 ∧ ρ 3 = .pointer (some ⟨ba, 0, none⟩) ∧ ρ 0 = .int .u16 8) 0 ⟨rfl, by simp [go_sem], by simp [go_sem, hnl], by simp [go_sem], by simp [go_sem]⟩ ?_
    rintro m ρ W ⟨rfl, g25, g24, g3, g0⟩
    have c_n : IntKind.u64.wrap a.n = a.n := wrap64 ok.n.1 (by have := ok.n; omega)
    simp [go_sem, g25, g24, g3, g0, qh, hnl, hnd, c_n]
    refine gen_load ?_
    intro Wb hWb
    have hq : Wb.heap[ba]? = some (.cells a.cells 34 (0, 0)) := by rw [hWb, heap_alloc, if_neg (by have := (Array.getElem?_eq_some_iff.1 qh).1; omega)]; exact qh
    have hc : Wb.heap[W.heap.size]? = some (.cells #[.slice none 0 0] 135 (0, 0)) := by rw [hWb, heap_alloc, if_pos rfl]
    have hsz : Wb.heap.size = W.heap.size + 1 := by rw [hWb]; simp
    have hub : Upd noB w Wb := by rw [hWb]; exact hu.alloc _
    have hne : ba ≠ W.heap.size := by have := (Array.getElem?_eq_some_iff.1 qh).1; omega
    have g : FQ w Wb Wb ba W.heap.size a [] := ⟨⟨Upd.refl _ _, ⟨by omega, rfl⟩, none, 0, 0, hc, nil_own _ _⟩, hub, hq, hne, hu.size⟩
    clear hq hc hsz hub hWb
    generalize W.heap.size = bw at g ⊢
    have qa := g.qa
    simp [go_sem, g25, g24, g3, g0, qa]
    refine CallP.mono (g.n (k := 8) (by decide) ok.file.1 ok.file.2 (by simp [leB_len]; try omega)) ?_
    clear qa g
    rintro v W4 g
    have qa := g.qa
    simp [go_sem, g25, g24, g3, g0, qa, c_n]
    refine CallP.mono (g.n (k := 8) (by decide) ok.at_.1 ok.at_.2 (by simp [leB_len]; try omega)) ?_
    clear qa g
    rintro v W4 g
    have qa := g.qa
    simp [go_sem, g25, g24, g3, g0, qa, c_n]
    refine CallP.mono (g.n (k := 4) (by decide) ok.n.1 ok.n.2 (by simp [leB_len]; try omega)) ?_
    clear qa g
    rintro v W4 g
    have qa := g.qa
    have hput : askF8.put A = .ok (leB a.file.toNat 8 ++ (leB a.at_.toNat 8 ++ leB a.n.toNat 4)) := by
      rw [askF8.put_ok hA rfl]
      have e : askF8.unS A = (a.file, a.at_, a.n) := by unfold askF8; simp only [ha.f]; rfl
      rw [e]
      exact seq_put (D := fun _ => _) (num_put ok.file.1 ok.file.2) (seq_put (D := fun _ => _) (num_put ok.at_.1 ok.at_.2) (num_put ok.n.1 ok.n.2))
    obtain ⟨p, n, c, hc, own⟩ := g.I.cell
    simp [go_sem, g25, g24, g3, g0, hc]
    rw [hput]
    refine ⟨g.all, _, rfl, ?_⟩
    simp only [List.append_assoc, List.nil_append] at own
    exact own_base own (by have := g.u.size; omega)
end Go.Proofs.YtinfdomlpbikaaaGreatDoor
namespace Go.Proofs.YtinfdomlpbikaaaGreatDoor
open Go.Eng Go.Lib
set_option linter.unusedSimpArgs false
set_option linter.unusedVariables false
set_option maxRecDepth 100000
variable {w w0 : World}
theorem FQ.keep0 {w wb W W' : World} {ba bw : Nat} {a : AskV} {l : List UInt8} (h : FQ w wb W ba bw a l) (u : Upd noB W W') : FQ w wb W' ba bw a l := by
  obtain ⟨p, n, c, hc, own⟩ := h.I.cell
  exact ⟨⟨h.I.u.trans (u.mono (fun _ _ h => h.elim)), h.I.lt, p, n, c, u.get hc (fun h => h), own_keep0 own u⟩, h.u, h.q, h.ne⟩
theorem FQ.wrote {w wb W W' : World} {ba bw : Nat} {a : AskV} {l l' : List UInt8} {p : Option Addr} {n c : Nat} (h : FQ w wb W ba bw a l) (u : Upd (fun i => wb.heap.size ≤ i) W W') (own : OwnB W' wb.heap.size (.slice p n c) l') :
    FQ w wb (W'.setB bw (.cells #[.slice p n c] 135 (0, 0))) ba bw a l' := by
  obtain ⟨p0, n0, c0, hc, _⟩ := h.I.cell
  have hlt := h.I.lt
  have hc' := u.get hc (by omega)
  refine ⟨⟨(h.I.u.trans' u (fun i hi hlt => by omega)).setB _ _ (fun _ => rfl), hlt, p, n, c, by rw [heap_setB, if_pos rfl, hc']; rfl, ?_⟩, h.u, h.q, h.ne⟩
  exact own_above own (Upd.setB (Upd.refl (fun x => x = bw) _) _ _ (fun _ => rfl)) (fun i h => by subst h; omega)
set_option maxHeartbeats 2000000 in
theorem filePutAsk9 {a : AskV} {A : AskS} (ha : AskAt w a A) (ok : a.ok) : CallP Tryz.prog 84 #[.int .u16 9, .agg a.cells] w (fun r w' => Upd noB w w' ∧ PutR w' w.heap.size r (askF9.put A)) := by
  have hS : SameN (AskV.mk zeroA.dialects zeroA.guid zeroA.proof zeroA.user zeroA.share zeroA.access zeroA.sharing zeroA.way zeroA.options zeroA.level zeroA.durable a.file zeroA.name a.at_ zeroA.n a.data zeroA.locks zeroA.most zeroA.pattern zeroA.after zeroA.cls zeroA.size_ zeroA.on) a ↔ askF9.mkS (askF9.unS A) = A := same_iff ha (by unfold askF9; simp only [ha.f]; rfl) (Or.inl ⟨rfl, rfl⟩) (Or.inr ⟨rfl, rfl⟩) (Or.inl ⟨rfl, rfl⟩)
  refine call_den (args := [_, _]) Tryz.func84 rfl rfl (by simp [Tryz.ntmps84]) ?_
  simp [go_sem]
  refine gen_draw ?_
  intro W hW
  have hu : Upd noB w W := by rw [hW]; exact (by repeat (first | exact Upd.refl _ _ | refine Upd.alloc ?_ _ | refine Upd.drew ?_ | refine Upd.drewN ?_ _ | refine Upd.setB ?_ _ _ (fun h => absurd h (by omega))))
  have qa : AskS0 w.heap.size a W := by unfold AskS0; rw [hW, heap_alloc, if_pos rfl]
  clear hW
  generalize hba : w.heap.size = ba at qa ⊢
  refine Go.Eng.Ch.draw_script [.pure 0, .one 1, .one 2, .pure 3, .pure 4, .chain [5, 7] [6], .one 8, .one 9, .one 10] (by kernel_rfl) (by kernel_rfl) (by kernel_rfl) ?_
  simp [go_sem]
  replace hu := hu.drew
  have qa' : AskS0 ba a W.drew := qa
  refine CallP.mono (fileKnown_any _ _) ?_
  rintro v W1 ⟨rfl, hW1⟩
  replace hu : Upd noB w W1 := by rw [hW1]; exact hu
  replace qa : AskS0 ba a W1 := by rw [hW1]; exact qa'
  clear hW1 qa'
  simp [go_sem, known9]
  haveI : Nonempty { W : World // AskS0 ba a W } := ⟨⟨W1, qa⟩⟩
  have ql := Q_load_fix (P := Tryz.prog) (W := fun i : { W : World // AskS0 ba a W } => i.1) (fun i => i.2.load)
  refine Go.Eng.Ch.opsPh_chain _ _ (AskS0 ba a) qa ?_
  simp [go_sem, ql]
  refine CallP.mono (fileAsked9 a _) ?_
  rintro v W2 ⟨rfl, u2⟩
  replace hu := hu.trans u2
  replace qa : AskS0 ba a W2 := u2.get qa (fun h => h)
  simp [go_sem, Go.Eng.Ch.contJ_app qa]
  refine CallP.mono fileSame_any ?_
  rintro v W3 ⟨x, rfl, hx, u3⟩
  replace hx := hx.trans hS
  replace hu := hu.trans u3
  replace qa : AskS0 ba a W3 := u3.get qa (fun h => h)
  clear u2 u3
  cases x with
  | false =>
    have hA : ¬ askF9.mkS (askF9.unS A) = A := fun h => by have := hx.2 h; cases this
    simp [go_sem, Go.Eng.Ch.contJ_app qa]
    rw [askF9.put_no hA]
    exact ⟨hu, rfl⟩
  | true =>
    have hA := hx.1 rfl
    have hlok : A.lok = [] := by rw [← hA]; rfl
    have hnd : a.data.n = A.dat.length := ha.nums.2.1
    have hnl : a.locks.n = 0 := by rw [ha.nums.2.2, hlok]; rfl
    have qh : W3.heap[ba]? = some (.cells a.cells 34 (0, 0)) := qa
    simp [go_sem, Go.Eng.Ch.contJ_app qa, qh]
    refine den_loop (fun _ ρ W => W = W3 ∧ ρ 25 = .int .i64 0 ∧ ρ 24 = .int .i64 0 ∧ ρ 3 = .pointer (some ⟨ba, 0, none⟩) ∧ ρ 0 = .int .u16 9) 0 ⟨rfl, by simp [go_sem], by simp [go_sem, hnl], by simp [go_sem], by simp [go_sem]⟩ ?_
    rintro m ρ W ⟨rfl, g25, g24, g3, g0⟩
    by_cases hlim : 32768 < A.dat.length
    · have hlim' : 32768 < (a.data.n : Int) := by omega
      have hlim2 : 32768 < a.data.n := by omega
      have hpre : askF9.pre A = 3 := if_pos hlim
      simp [go_sem, g25, g24, g3, g0, qh, hnl, hlim', hlim2]
      rw [askF9.put_pre hA (by rw [hpre]; decide), hpre]
      exact ⟨hu, rfl⟩
    · have hlim' : ¬ 32768 < (a.data.n : Int) := by omega
      have hlim2 : ¬ 32768 < a.data.n := by omega
      have cn : IntKind.u64.wrap (a.data.n : Int) = a.data.n := wrap64 (by omega) (by omega)
      simp [go_sem, g25, g24, g3, g0, qh, hnl, hlim', hlim2]
      refine gen_load ?_
      intro Wb hWb
      have hq : Wb.heap[ba]? = some (.cells a.cells 34 (0, 0)) := by rw [hWb, heap_alloc, if_neg (by have := (Array.getElem?_eq_some_iff.1 qh).1; omega)]; exact qh
      have hc : Wb.heap[W.heap.size]? = some (.cells #[.slice none 0 0] 135 (0, 0)) := by rw [hWb, heap_alloc, if_pos rfl]
      have hsz : Wb.heap.size = W.heap.size + 1 := by rw [hWb]; simp
      have hub : Upd noB w Wb := by rw [hWb]; exact hu.alloc _
      have hne : ba ≠ W.heap.size := by have := (Array.getElem?_eq_some_iff.1 qh).1; omega
      have g : FQ w Wb Wb ba W.heap.size a [] := ⟨⟨Upd.refl _ _, ⟨by omega, rfl⟩, none, 0, 0, hc, nil_own _ _⟩, hub, hq, hne, hu.size⟩
      clear hq hc hsz hub hWb
      generalize W.heap.size = bw at g ⊢
      have qa := g.qa
      simp [go_sem, g25, g24, g3, g0, qa]
      refine CallP.mono (g.n (k := 8) (by decide) ok.file.1 ok.file.2 (by simp [leB_len]; try omega)) ?_
      clear qa g
      rintro v W4 g
      have qa := g.qa
      simp [go_sem, g25, g24, g3, g0, qa]
      refine CallP.mono (g.n (k := 8) (by decide) ok.at_.1 ok.at_.2 (by simp [leB_len]; try omega)) ?_
      clear qa g
      rintro v W4 g
      have qa := g.qa
      simp [go_sem, g25, g24, g3, g0, qa, cn]
      refine CallP.mono (g.n (k := 4) (by decide) (show (0 : Int) ≤ (a.data.n : Int) by omega) (show (a.data.n : Int) < 256 ^ 4 by omega) (by simp [leB_len]; try omega)) ?_
      clear qa g
      rintro v W4 g
      have qa := g.qa
      simp [go_sem]
      have hd := (ha.keep g.all.drew).dat
      obtain ⟨p, n, c, hc, own⟩ := g.I.cell
      have l1 : ∀ _ : Unit, (Instr.loadAt 31 (.pointer (some ⟨bw, 0, none⟩))).run Tryz.prog W4.drew = .ok (.slice p n c) W4.drew := fun _ => by simp [go_sem, hc]
      have l2 : ∀ _ : Unit, (Instr.loadAt 31 (.pointer (some ⟨ba, 61, none⟩))).run Tryz.prog W4.drew = .ok (.slice a.data.p a.data.n a.data.cap) W4.drew := fun _ => by simp [go_sem, qa]
      have own' : OwnB W4.drew Wb.heap.size (.slice p n c) _ := own_keep0 own ((Upd.refl noB W4).drew)
      have hsz : Wb.heap.size ≤ W4.drew.heap.size := g.I.u.size
      obtain ⟨p7, n7, c7, W7, hrun7, own7, u7⟩ := OwnB.appendN own' hd 31 (by simp [leB_len]; omega) hsz
      refine draw_script [.pure 0, .pure 1, .pure 5, .still [2, 3, 4, 6], .one 7, .one 8, .pure 9, .one 10] (by kernel_rfl) (by kernel_rfl) (by kernel_rfl) ?_
      simp [go_sem, g3, Q_load_fix (W := fun _ : Unit => W4.drew) l1, Q_load_fix (W := fun _ : Unit => W4.drew) l2, K_append_ok _ _ _ _ hrun7]
      have hlt := g.I.lt
      have hc7 := u7.get (show W4.drew.heap[bw]? = _ from hc) (by omega)
      simp [go_sem, hc7, g3]
      have gz := (g.keep0 ((Upd.refl noB W4).drew)).wrote u7 own7
      refine ⟨gz.all, ?_⟩
      have hput : askF9.put A = .ok (leB a.file.toNat 8 ++ (leB a.at_.toNat 8 ++ (leB a.data.n 4 ++ A.dat))) := by
        rw [askF9.put_ok hA (if_neg hlim)]
        have e : askF9.unS A = (a.file, a.at_, (A.dat.length : Int), A.dat) := by unfold askF9; simp only [ha.f]; rfl
        rw [e]
        rw [hnd]
        exact seq_put (D := fun _ => _) (num_put ok.file.1 ok.file.2) (seq_put (D := fun _ => _) (num_put ok.at_.1 ok.at_.2) (data_put hlim))
      rw [hput]
      have en : ((a.data.n : Int)).toNat = a.data.n := by omega
      obtain ⟨pz, nz, cz, hcz, ownz⟩ := gz.I.cell
      have ez := hcz.symm.trans (show _ = some (.cells #[.slice p7 n7 c7] 135 (0, 0)) by rw [heap_setB, if_pos rfl, hc7]; rfl)
      rw [en] at ownz
      simp only [List.append_assoc, List.nil_append, List.cons_append] at ownz ⊢
      cases ez
      exact ⟨_, rfl, own_base ownz (by have := g.u.size; omega)⟩
end Go.Proofs.YtinfdomlpbikaaaGreatDoor
namespace Go.Proofs.YtinfdomlpbikaaaGreatDoor
open Go.Eng Go.Lib
set_option linter.unusedSimpArgs false
set_option linter.unusedVariables false
set_option maxRecDepth 100000
variable {w w0 : World}

theorem slU32 : SlT Tryz.prog 170 23 1 4 :=
  SlT.mk' Tryz.underlying170 (i := Tryz.t23) (z := .int .u32 0) (by kernel_rfl) (by kernel_rfl) (by kernel_rfl) (by kernel_rfl) rfl (by decide)
def u32V (x : Int) : Value := .int .u32 x
theorem u4b (x y z u : Int) (w : World) (k : Value → World → Prop) : K_buildSlice Tryz.prog 170 4 #[(0, .int .u32 x), (1, .int .u32 y), (2, .int .u32 z), (3, .int .u32 u)] w k = k (.slice (some ⟨w.heap.size, 0, none⟩) 4 4) (w.alloc (.cells ([x, y, z, u].map u32V).toArray 23)) :=
  slU32.buildN (w := w) 4 #[(0, .int .u32 x), (1, .int .u32 y), (2, .int .u32 z), (3, .int .u32 u)] rfl (by simp [Value.cells]) (by decide) (by decide) k
theorem u32_row {w : World} (L : List Int) : RowAt (w.alloc (.cells (L.map u32V).toArray 23)) 1 (.slice (some ⟨w.heap.size, 0, none⟩) L.length L.length) L.length (L.map u32V) :=
  ⟨by simp, Or.inr ⟨w.heap.size, 0, L.length, _, _, _, rfl, by rw [heap_alloc, if_pos rfl], by simp, by simp [List.take_of_length_le]⟩⟩
def l4 (a : AskV) : List Int := [a.access, a.sharing, a.way, a.options]
def hdr5 (a : AskV) : List UInt8 := ((l4 a).flatMap (fun x => leB x.toNat 4)) ++ leB a.level.toNat 1 ++ leB a.durable.toNat 1 ++ leB 0 2 ++ leB a.file.toNat 8
def CcrI (Wc : World) (ba bw bs : Nat) (a : AskV) (m : Nat) (ρ : Env) (W : World) : Prop :=
  ∃ k : Nat, m = 4 - k ∧ k ≤ 4 ∧ ρ 0 = .pointer (some ⟨bw, 0, none⟩) ∧ ρ 3 = .pointer (some ⟨ba, 0, none⟩) ∧ ρ 18 = .slice (some ⟨bs, 0, none⟩) 4 4 ∧ ρ 19 = .int .i64 4 ∧ ρ 20 = .int .i64 k ∧ WrI Wc W bw Wc.heap.size 135 (((l4 a).take k).flatMap (fun x => leB x.toNat 4))
theorem leB4_fl (L : List Int) : (L.flatMap (fun x => leB x.toNat 4)).length = 4 * L.length := by
  induction L with
  | nil => rfl
  | cons a l ih => rw [List.flatMap_cons, List.length_append, ih, leB_len, List.length_cons]; omega
set_option maxHeartbeats 2000000 in
theorem fileCreateP_any {w00 : World} {a : AskV} {bw : Nat} (hc : w.heap[bw]? = some (.cells #[.slice none 0 0] 135 (0, 0))) (ok : a.ok) (hs : a.name.size ≤ 1099511627776) (hT : Tabs w00) (h00 : Upd noB w00 w) (hb0 : w00.heap.size ≤ bw) :
    CallP Tryz.prog 118 #[.pointer (some ⟨bw, 0, none⟩), .agg a.cells] w (fun r w' => Upd (fun x => x = bw) w w' ∧ PutR w' w.heap.size r (match textPut a.name.data.toList with
      | .error e => .error e
      | .ok b => .ok (hdr5 a ++ b))) := by
  refine call_den (args := [_, _]) Tryz.func118 rfl rfl (by simp [Tryz.ntmps118]) ?_
  simp [go_sem, u4b]
  have hlt := (Array.getElem?_eq_some_iff.1 hc).1
  obtain ⟨Wc, hWc⟩ : ∃ Wc, Wc = (w.alloc (.cells a.cells 34)).alloc (.cells ([a.access, a.sharing, a.way, a.options].map u32V).toArray 23) := ⟨_, rfl⟩
  have hu0 : Upd noB w Wc := by rw [hWc]; exact ((Upd.refl _ _).alloc _).alloc _
  have hq : Wc.heap[w.heap.size]? = some (.cells a.cells 34 (0, 0)) := by rw [hWc, heap_alloc, if_neg (by simp), heap_alloc, if_pos rfl]
  have hrow : RowAt Wc 1 (.slice (some ⟨w.heap.size + 1, 0, none⟩) 4 4) 4 ((l4 a).map u32V) := by
    rw [hWc]
    have := u32_row (w := w.alloc (.cells a.cells 34)) (l4 a)
    simpa [l4] using this
  have hcc := hu0.get hc (fun h => h)
  have hsz : Wc.heap.size = w.heap.size + 2 := by rw [hWc]; simp
  have I0 : WrI Wc Wc bw Wc.heap.size 135 [] := ⟨Upd.refl _ _, ⟨by omega, rfl⟩, none, 0, 0, hcc, nil_own _ _⟩
  have hres : ∀ W', Upd (fun x => x = bw) Wc W' → Upd (fun x => x = bw) w W' := fun W' h => (hu0.mono (fun _ _ h => h.elim)).trans h
  rw [show (w.alloc (.cells a.cells 34)).alloc (.cells #[u32V a.access, u32V a.sharing, u32V a.way, u32V a.options] 23) = Wc from by rw [hWc]; rfl]
  refine den_loop (CcrI Wc w.heap.size bw (w.heap.size + 1) a) 4 ?_ ?_
  · refine ⟨0, rfl, by omega, by simp [go_sem], by simp [go_sem], by simp [go_sem], by simp [go_sem], by simp [go_sem], I0⟩
  rintro m ρ W ⟨k, rfl, hk, g0, g3, g18, g19, g20, I⟩
  have qa := I.u.get hq (by omega)
  by_cases hlt4 : k < 4
  · obtain ⟨x, hx⟩ : ∃ x, (l4 a)[k]? = some x := ⟨_, List.getElem?_eq_getElem hlt4⟩
    have hr : 0 ≤ x ∧ x < 4294967296 := by
      have := List.mem_of_getElem? hx
      simp only [l4, List.mem_cons, List.not_mem_nil, or_false] at this
      rcases this with rfl | rfl | rfl | rfl
      · exact ok.access
      · exact ok.sharing
      · exact ok.way
      · exact ok.options
    have row := hrow.keep I.u (fun b hb h => by simp [Value.ownBlock] at hb; omega)
    obtain ⟨q, hidx, hld, hK⟩ := row.at1 (P := Tryz.prog) (t := 170) (e := 23) Tryz.underlying170 Tryz.sizeOf23 Tryz.isAgg23 k hlt4 (.int .u32 x) (by rw [List.getElem?_map, hx]; rfl)
    have hwr : IntKind.i64.wrap ((k : Int) + 1) = ((k + 1 : Nat) : Int) := wrap64_id (by omega) (by omega)
    have cx : IntKind.u64.wrap x = x := wrap64 hr.1 (by omega)
    have hltI : (k : Int) < 4 := by omega
    simp [go_sem, g0, g3, g18, g19, g20, hlt4, hltI, hidx, hK, cx]
    refine CallP.mono (fileW I (k := 4) (by decide) hr.1 hr.2 (by rw [leB4_fl, List.length_take]; omega)) ?_
    rintro v W2 I2
    simp [go_sem, g0, g3, g18, g19, g20, hwr]
    refine ⟨4 - (k + 1), by omega, k + 1, rfl, by omega, by simp [go_sem, g0], by simp [go_sem, g3], by simp [go_sem, g18], by simp [go_sem, g19], by simp [go_sem], ?_⟩
    rw [flat_snoc _ _ _ _ hx]
    exact I2
  · obtain rfl : k = 4 := by omega
    have e4 : (l4 a).take 4 = l4 a := rfl
    rw [e4] at I
    have cl : IntKind.u64.wrap a.level = a.level := wrap64 ok.level.1 (by have := ok.level; omega)
    have cd : IntKind.u64.wrap a.durable = a.durable := wrap64 ok.durable.1 (by have := ok.durable; omega)
    simp [go_sem, g0, g3, g18, g19, g20, qa, cl]
    refine CallP.mono (fileW I (k := 1) (by decide) ok.level.1 ok.level.2 (by rw [leB4_fl]; simp [l4])) ?_
    clear I
    rintro v W2 I
    have qa := I.u.get hq (by omega)
    simp [go_sem, g0, g3, qa, cd]
    refine CallP.mono (fileW I (k := 1) (by decide) ok.durable.1 ok.durable.2 (by simp [leB4_fl, leB_len, l4])) ?_
    clear I
    rintro v W3 I
    simp [go_sem, g0, g3]
    refine CallP.mono (fileW I (k := 2) (z := 0) (by decide) (by decide) (by decide) (by simp [leB4_fl, leB_len, l4])) ?_
    clear I
    rintro v W4 I
    have qa := I.u.get hq (by omega)
    simp [go_sem, g0, g3, qa]
    refine CallP.mono (fileW I (k := 8) (by decide) ok.file.1 ok.file.2 (by simp [leB4_fl, leB_len, l4])) ?_
    clear I
    rintro v W5 I
    have qa := I.u.get hq (by omega)
    simp [go_sem, g0, g3, qa]
    have h05 : Upd noB w00 W5 := h00.trans' (hres _ I.u) (fun i hi hlt => by omega)
    refine CallP.mono (putText_any a.name hs (hT.keep0 h05)) ?_
    rintro r W6 ⟨u6, hr⟩
    have hh : hdr5 a = ((((l4 a).flatMap (fun x => leB x.toNat 4)) ++ leB a.level.toNat 1) ++ leB a.durable.toNat 1) ++ leB (0 : Int).toNat 2 ++ leB a.file.toNat 8 := rfl
    rw [← hh] at I
    have hhl : (hdr5 a).length = 28 := by simp [hdr5, leB4_fl, leB_len, l4]
    obtain ⟨p, n, c, hc5, own⟩ := I.cell
    have hc6 := u6.get hc5 (fun h => h)
    have own6 : OwnB W6 Wc.heap.size (.slice p n c) (hdr5 a) := own_keep0 own u6
    have hall := (hres _ I.u).trans (u6.mono (fun _ _ h => h.elim))
    cases ht : textPut a.name.data.toList with
    | error z =>
      rw [ht] at hr
      simp only [PutR] at hr
      subst hr
      have hz := textPut_err ht
      simp [go_sem, hz]
      exact ⟨hall, rfl⟩
    | ok b =>
      rw [ht] at hr
      simp only [PutR] at hr
      obtain ⟨vt, rfl, ownt⟩ := hr
      have hbl := textPut_len ht
      obtain ⟨p7, n7, c7, W7, hrun, own7, u7⟩ := OwnB.appendN own6 ownt.at 31 (by omega) (by have := I.u.size; have := u6.size; omega)
      simp [go_sem, g0, hc6, K_append_ok _ _ _ _ hrun]
      exact ⟨hall.trans' u7 (fun i hi hlt => by omega), _, rfl, own_base own7 (by omega)⟩
end Go.Proofs.YtinfdomlpbikaaaGreatDoor
namespace Go.Proofs.YtinfdomlpbikaaaGreatDoor
open Go.Eng Go.Lib
set_option linter.unusedSimpArgs false
set_option linter.unusedVariables false
set_option maxRecDepth 100000
variable {w w0 : World}
theorem put5_eq {a : AskV} {A : AskS} (ha : A.f = a.bare) (ok : a.ok) (hA : askF5.mkS (askF5.unS A) = A) : askF5.put A = match textPut a.name.data.toList with
    | .error e => .error e
    | .ok b => .ok (hdr5 a ++ b) := by
  have e : askF5.unS A = (a.access, a.sharing, a.way, a.options, a.level, a.durable, (), a.file, a.name) := by unfold askF5; simp only [ha]; rfl
  rw [askF5.put_ok hA rfl, e]
  cases ht : textPut a.name.data.toList with
  | error z =>
    exact seq_putE (C := numC 4) (num_put (k := 4) ok.access.1 ok.access.2) (seq_putE (num_put (k := 4) ok.sharing.1 ok.sharing.2) (seq_putE (num_put (k := 4) ok.way.1 ok.way.2) (seq_putE (num_put (k := 4) ok.options.1 ok.options.2) (seq_putE (num_put (k := 1) ok.level.1 ok.level.2) (seq_putE (num_put (k := 1) ok.durable.1 ok.durable.2) (seq_putE zero2_put (seq_putE (num_put (k := 8) ok.file.1 ok.file.2) ht)))))))
  | ok b =>
    have h := seq_put (D := fun _ => _) (num_put (k := 4) ok.access.1 ok.access.2) (seq_put (D := fun _ => _) (num_put (k := 4) ok.sharing.1 ok.sharing.2) (seq_put (D := fun _ => _) (num_put (k := 4) ok.way.1 ok.way.2) (seq_put (D := fun _ => _) (num_put (k := 4) ok.options.1 ok.options.2) (seq_put (D := fun _ => _) (num_put (k := 1) ok.level.1 ok.level.2) (seq_put (D := fun _ => _) (num_put (k := 1) ok.durable.1 ok.durable.2) (seq_put (D := fun _ => _) zero2_put (seq_put (C := numC 8) (D := fun _ => textC) (num_put (k := 8) ok.file.1 ok.file.2) ht)))))))
    refine h.trans ?_
    show _ = Except.ok (((l4 a).flatMap (fun x => leB x.toNat 4)) ++ leB a.level.toNat 1 ++ leB a.durable.toNat 1 ++ leB 0 2 ++ leB a.file.toNat 8 ++ b)
    simp only [l4, List.flatMap_cons, List.flatMap_nil, List.append_nil, List.append_assoc]
set_option maxHeartbeats 2000000 in
theorem filePutAsk5 {a : AskV} {A : AskS} (ha : AskAt w a A) (ok : a.ok) (hs : a.name.size ≤ 1099511627776) (hT : Tabs w) : CallP Tryz.prog 84 #[.int .u16 5, .agg a.cells] w (fun r w' => Upd noB w w' ∧ PutR w' w.heap.size r (askF5.put A)) := by
  have hS : SameN (AskV.mk zeroA.dialects zeroA.guid zeroA.proof zeroA.user zeroA.share a.access a.sharing a.way a.options a.level a.durable a.file a.name zeroA.at_ zeroA.n zeroA.data zeroA.locks zeroA.most zeroA.pattern zeroA.after zeroA.cls zeroA.size_ zeroA.on) a ↔ askF5.mkS (askF5.unS A) = A := same_iff ha (by unfold askF5; simp only [ha.f]; rfl) (Or.inl ⟨rfl, rfl⟩) (Or.inl ⟨rfl, rfl⟩) (Or.inl ⟨rfl, rfl⟩)
  refine call_den (args := [_, _]) Tryz.func84 rfl rfl (by simp [Tryz.ntmps84]) ?_
  simp [go_sem]
  refine gen_draw ?_
  intro W hW
  have hu : Upd noB w W := by rw [hW]; exact (by repeat (first | exact Upd.refl _ _ | refine Upd.alloc ?_ _ | refine Upd.drew ?_ | refine Upd.drewN ?_ _ | refine Upd.setB ?_ _ _ (fun h => absurd h (by omega))))
  have qa : AskS0 w.heap.size a W := by unfold AskS0; rw [hW, heap_alloc, if_pos rfl]
  clear hW
  generalize hba : w.heap.size = ba at qa ⊢
  refine Go.Eng.Ch.draw_script [.pure 0, .one 1, .one 2, .pure 3, .pure 4, .chain [5, 7] [6], .one 8, .one 9, .one 10] (by kernel_rfl) (by kernel_rfl) (by kernel_rfl) ?_
  simp [go_sem]
  replace hu := hu.drew
  have qa' : AskS0 ba a W.drew := qa
  refine CallP.mono (fileKnown_any _ _) ?_
  rintro v W1 ⟨rfl, hW1⟩
  replace hu : Upd noB w W1 := by rw [hW1]; exact hu
  replace qa : AskS0 ba a W1 := by rw [hW1]; exact qa'
  clear hW1 qa'
  simp [go_sem, known9]
  haveI : Nonempty { W : World // AskS0 ba a W } := ⟨⟨W1, qa⟩⟩
  have ql := Q_load_fix (P := Tryz.prog) (W := fun i : { W : World // AskS0 ba a W } => i.1) (fun i => i.2.load)
  refine Go.Eng.Ch.opsPh_chain _ _ (AskS0 ba a) qa ?_
  simp [go_sem, ql]
  refine CallP.mono (fileAsked5 a _) ?_
  rintro v W2 ⟨rfl, u2⟩
  replace hu := hu.trans u2
  replace qa : AskS0 ba a W2 := u2.get qa (fun h => h)
  simp [go_sem, Go.Eng.Ch.contJ_app qa]
  refine CallP.mono fileSame_any ?_
  rintro v W3 ⟨x, rfl, hx, u3⟩
  replace hx := hx.trans hS
  replace hu := hu.trans u3
  replace qa : AskS0 ba a W3 := u3.get qa (fun h => h)
  clear u2 u3
  cases x with
  | false =>
    have hA : ¬ askF5.mkS (askF5.unS A) = A := fun h => by have := hx.2 h; cases this
    simp [go_sem, Go.Eng.Ch.contJ_app qa]
    rw [askF5.put_no hA]
    exact ⟨hu, rfl⟩
  | true =>
    have hA := hx.1 rfl
    have hlok : A.lok = [] := by rw [← hA]; rfl
    have hdat : A.dat = [] := by rw [← hA]; rfl
    have hnd : a.data.n = 0 := by rw [ha.nums.2.1, hdat]; rfl
    have hnl : a.locks.n = 0 := by rw [ha.nums.2.2, hlok]; rfl
    have qh : W3.heap[ba]? = some (.cells a.cells 34 (0, 0)) := qa
    simp [go_sem, Go.Eng.Ch.contJ_app qa, qh]
    refine den_loop (fun _ ρ W => W = W3 ∧ ρ 25 = .int .i64 0 ∧ ρ 24 = .int .i64 0 ∧ ρ 3 = .pointer (some ⟨ba, 0, none⟩) ∧ ρ 0 = .int .u16 5) 0 ⟨rfl, by simp [go_sem], by simp [go_sem, hnl], by simp [go_sem], by simp [go_sem]⟩ ?_
    rintro m ρ W ⟨rfl, g25, g24, g3, g0⟩
    simp [go_sem, g25, g24, g3, g0, qh, hnl, hnd]
    refine gen_load ?_
    intro Wb hWb
    have hq : Wb.heap[ba]? = some (.cells a.cells 34 (0, 0)) := by rw [hWb, heap_alloc, if_neg (by have := (Array.getElem?_eq_some_iff.1 qh).1; omega)]; exact qh
    have hc : Wb.heap[W.heap.size]? = some (.cells #[.slice none 0 0] 135 (0, 0)) := by rw [hWb, heap_alloc, if_pos rfl]
    have hsz : Wb.heap.size = W.heap.size + 1 := by rw [hWb]; simp
    have hub : Upd noB w Wb := by rw [hWb]; exact hu.alloc _
    have hne : ba ≠ W.heap.size := by have := (Array.getElem?_eq_some_iff.1 qh).1; omega
    have g : FQ w Wb Wb ba W.heap.size a [] := ⟨⟨Upd.refl _ _, ⟨by omega, rfl⟩, none, 0, 0, hc, nil_own _ _⟩, hub, hq, hne, hu.size⟩
    clear hq hsz hub hWb
    generalize W.heap.size = bw at g hc ⊢
    have qa := g.qa
    simp [go_sem, g25, g24, g3, g0, qa]
    refine CallP.mono (fileCreateP_any hc ok hs hT g.u g.ne.2) ?_
    rintro r W5 ⟨u5, hr⟩
    have hall : Upd noB w W5 := g.u.trans' u5 (fun i hi hlt => by have := g.ne.2; omega)
    have hsz := g.u.size
    rw [put5_eq ha.f ok hA]
    cases ht : textPut a.name.data.toList with
    | error z =>
      rw [ht] at hr
      simp only [PutR] at hr
      subst hr
      simp [go_sem]
      exact ⟨hall, rfl⟩
    | ok b =>
      rw [ht] at hr
      simp only [PutR] at hr
      obtain ⟨v, rfl, own⟩ := hr
      simp [go_sem]
      exact ⟨hall, v, rfl, own_base own (by omega)⟩
/-- an element, loaded whole -/
theorem lock_load {W : World} {v : Value} {L : List LockV} (h : RowAt W 4 v L.length (L.flatMap LockV.row)) (i : Nat) (hi : i < L.length) :
    ∃ q, (∀ kk, (Instr.indexAt 32 v (.int kk i)).run Tryz.prog W = .ok (.pointer (some q)) W) ∧ ∀ K, K_load Tryz.prog 110 (.pointer (some q)) W K = K (.agg L[i].row.toArray) W := by
  obtain ⟨q, h1, _, h3⟩ := h.atN (P := Tryz.prog) (t := 32) (e := 110) Tryz.underlying32 Tryz.sizeOf110 Tryz.isAgg110 i hi
  rw [flat_at LockV.row 4 (fun _ => rfl) L i hi] at h3
  exact ⟨q, h1, h3⟩
def OqI (w : World) (ba : Nat) (a : AskV) (L : List LockV) (m : Nat) (ρ : Env) (W : World) : Prop :=
  ∃ i : Nat, m = L.length - i ∧ i ≤ L.length ∧ (∀ x ∈ L.take i, x.open_ = 0) ∧ Upd noB w W ∧ W.heap[ba]? = some (.cells a.cells 34 (0, 0)) ∧ ρ 23 = .slice a.locks.p a.locks.n a.locks.cap ∧ ρ 24 = .int .i64 L.length ∧ ρ 25 = .int .i64 i ∧ ρ 3 = .pointer (some ⟨ba, 0, none⟩) ∧ ρ 0 = .int .u16 10
/-- as WrI, a further block as it was, and apart from the bytes -/
structure WrY (wb w : World) (bw n0 : Nat) (T : TypeId) (l : List UInt8) (bx : Nat) (o : Obj) : Prop where
  u : Upd (fun x => x = bw) wb w
  lt : bw < n0 ∧ n0 = wb.heap.size
  cell : ∃ p n c, w.heap[bw]? = some (.cells #[.slice p n c] T (0, 0)) ∧ OwnB w n0 (.slice p n c) l ∧ (∀ g, (Value.slice p n c).ownBlock = some g → g ≠ bx)
  qx : w.heap[bx]? = some o
  ne : bx ≠ bw
theorem WrY.toI {wb w : World} {bw n0 : Nat} {T : TypeId} {l : List UInt8} {bx : Nat} {o : Obj} (h : WrY wb w bw n0 T l bx o) : WrI wb w bw n0 T l := by
  obtain ⟨p, n, c, h1, h2, _⟩ := h.cell
  exact ⟨h.u, h.lt, p, n, c, h1, h2⟩
theorem WrI.toY {wb w w' : World} {bw n0 : Nat} {T : TypeId} {l : List UInt8} {o : Obj} (h : WrI wb w bw n0 T l) (u : Upd noB w w') (hx : w'.heap[w.heap.size]? = some o) : WrY wb w' bw n0 T l w.heap.size o := by
  obtain ⟨p, n, c, h1, h2⟩ := h.cell
  have hb := (Array.getElem?_eq_some_iff.1 h1).1
  exact ⟨h.u.trans (u.mono (fun _ _ h => h.elim)), h.lt, ⟨p, n, c, u.get h1 (fun h => h), own_keep0 h2 u, fun g hg => by have := (h2.lt g hg).2; omega⟩, hx, by omega⟩
theorem fileWY {wb : World} {bw n0 bx : Nat} {T : TypeId} {l : List UInt8} {o : Obj} {z : Int} {k : Nat} (J : WrY wb w bw n0 T l bx o) (hk : sizeOk k) (h0 : 0 ≤ z) (h1 : z < 256 ^ k) (hl : l.length ≤ 1099511627776) :
    CallP Tryz.prog 119 #[.pointer (some ⟨bw, 0, none⟩), .int .u64 z, .int .i64 k] w (fun r w' => WrY wb w' bw n0 T (l ++ leB z.toNat k) bx o) := by
  obtain ⟨p, n, c, hc, own, hob⟩ := J.cell
  refine call_den (args := [_, _, _]) Tryz.func119 rfl rfl (by simp [Tryz.ntmps119]) ?_
  simp [go_sem]
  refine CallP.mono (endsPut_z hk h0 h1 w) ?_
  rintro r w1 ⟨x, rfl, u1, own1⟩
  have hc1 := u1.get hc (fun h => h)
  have hx1 := u1.get J.qx (fun h => h)
  have hs := J.u.size
  have hbx := (Array.getElem?_eq_some_iff.1 J.qx).1
  have ownk : OwnB w1 n0 (.slice p n c) l := own_keep0 own u1
  obtain ⟨v', w2, hrun, own2, hg2, hat⟩ := sl_append_at slByte ownk own1.at.1 31 (u8_one _) (by rw [leB_len]; unfold sizeOk at hk; omega) (by rw [leB_len]; unfold sizeOk at hk; simp [maxLen]; omega) (by have := J.lt.2; have := u1.size; omega)
  have hobw : ∀ k, (Value.slice p n c).ownBlock = some k → n0 ≤ k := fun k hk => (ownk.lt k hk).1
  have u2 : Upd (fun i => (Value.slice p n c).ownBlock = some i) w1 w2 := (Upd.refl _ _).grown hg2 (fun k hk _ => hk)
  have own2' : OwnB w2 n0 v' (l ++ leB z.toNat k) := by
    unfold OwnB
    rw [List.length_append, List.map_append]
    exact own2
  obtain ⟨p2, n2, c2, rfl⟩ := OwnB.slice own2'
  have hc2 := u2.get hc1 (fun h => by have := hobw _ h; have := J.lt; omega)
  have hx2 := u2.get hx1 (fun h => hob _ h rfl)
  simp [go_sem, hc1, K_append_ok _ _ _ _ hrun, hc2]
  have ub : Upd (fun x => x = bw) w2 (w2.setB bw (.cells #[.slice p2 n2 c2] T (0, 0))) := (Upd.refl _ _).setB _ _ (fun _ => rfl)
  refine ⟨((J.u.trans (u1.mono (fun _ _ h => h.elim))).trans' u2 (fun i hi hlt => by have := hobw _ hi; have := J.lt; omega)).trans ub, J.lt, ⟨p2, n2, c2, by rw [heap_setB, if_pos rfl, hc2]; rfl, own_above own2' ub (fun i h => by subst h; exact J.lt.1), ?_⟩, by rw [heap_setB, if_neg J.ne]; exact hx2, J.ne⟩
  intro g hg
  rcases hat with h | h
  · rw [h] at hg; exact hob g hg
  · rw [h] at hg; injection hg with hg; have := u1.size; omega
theorem lock_flat : ∀ L : List LockV, (∀ x ∈ L, x.open_ = 0) → (L.map lockTo).flatMap (fun x => lockB (lockOf x)) = L.flatMap lockB
  | [], _ => rfl
  | z :: L, h => by
    have h3 : lockOf (lockTo z) = z := by have := h z (by simp); cases z; simp only at this; subst this; rfl
    rw [List.map_cons, List.flatMap_cons, List.flatMap_cons, h3, lock_flat L (fun x hx => h x (by simp [hx]))]
def LqI (w wb : World) (ba bw : Nat) (a : AskV) (L : List LockV) (pre : List UInt8) (m : Nat) (ρ : Env) (W : World) : Prop :=
  ∃ i : Nat, m = L.length - i ∧ i ≤ L.length ∧ ρ 3 = .pointer (some ⟨ba, 0, none⟩) ∧ ρ 8 = .pointer (some ⟨bw, 0, none⟩) ∧ ρ 111 = .slice a.locks.p a.locks.n a.locks.cap ∧ ρ 112 = .int .i64 L.length ∧ ρ 113 = .int .i64 i ∧ FQ w wb W ba bw a (pre ++ (L.take i).flatMap lockB)
theorem lockB_eq {y : LockV} (ok : y.ok) : lockB y = leB y.at_.toNat 8 ++ leB y.n.toNat 8 ++ leB y.mode.toNat 4 := by
  have := ok.mode
  rw [leB_4 _ (by omega)]
  simp [lockB]
theorem lockB_fl (L : List LockV) : (L.flatMap lockB).length = 20 * L.length := by
  induction L with
  | nil => rfl
  | cons z L ih => rw [List.flatMap_cons, List.length_append, ih, lockB_len, List.length_cons]; omega
set_option maxHeartbeats 4000000 in
theorem filePutAsk10 {a : AskV} {A : AskS} (ha : AskAt w a A) (ok : a.ok) (okl : ∀ x ∈ A.lok, LockV.ok x) : CallP Tryz.prog 84 #[.int .u16 10, .agg a.cells] w (fun r w' => Upd noB w w' ∧ PutR w' w.heap.size r (askF10.put A)) := by
  have hS : SameN (AskV.mk zeroA.dialects zeroA.guid zeroA.proof zeroA.user zeroA.share zeroA.access zeroA.sharing zeroA.way zeroA.options zeroA.level zeroA.durable a.file zeroA.name zeroA.at_ zeroA.n zeroA.data a.locks zeroA.most zeroA.pattern zeroA.after zeroA.cls zeroA.size_ zeroA.on) a ↔ ({ zeroAS with f := { zeroA with file := a.file }, lok := A.lok } : AskS) = A := same_iff ha rfl (Or.inl ⟨rfl, rfl⟩) (Or.inl ⟨rfl, rfl⟩) (Or.inr ⟨rfl, rfl⟩)
  refine call_den (args := [_, _]) Tryz.func84 rfl rfl (by simp [Tryz.ntmps84]) ?_
  simp [go_sem]
  refine gen_draw ?_
  intro W hW
  have hu : Upd noB w W := by rw [hW]; exact (by repeat (first | exact Upd.refl _ _ | refine Upd.alloc ?_ _ | refine Upd.drew ?_ | refine Upd.drewN ?_ _ | refine Upd.setB ?_ _ _ (fun h => absurd h (by omega))))
  have qa : AskS0 w.heap.size a W := by unfold AskS0; rw [hW, heap_alloc, if_pos rfl]
  clear hW
  generalize hba : w.heap.size = ba at qa ⊢
  refine Go.Eng.Ch.draw_script [.pure 0, .one 1, .one 2, .pure 3, .pure 4, .chain [5, 7] [6], .one 8, .one 9, .one 10] (by kernel_rfl) (by kernel_rfl) (by kernel_rfl) ?_
  simp [go_sem]
  replace hu := hu.drew
  have qa' : AskS0 ba a W.drew := qa
  refine CallP.mono (fileKnown_any _ _) ?_
  rintro v W1 ⟨rfl, hW1⟩
  replace hu : Upd noB w W1 := by rw [hW1]; exact hu
  replace qa : AskS0 ba a W1 := by rw [hW1]; exact qa'
  clear hW1 qa'
  simp [go_sem, known9]
  haveI : Nonempty { W : World // AskS0 ba a W } := ⟨⟨W1, qa⟩⟩
  have ql := Q_load_fix (P := Tryz.prog) (W := fun i : { W : World // AskS0 ba a W } => i.1) (fun i => i.2.load)
  refine Go.Eng.Ch.opsPh_chain _ _ (AskS0 ba a) qa ?_
  simp [go_sem, ql]
  refine CallP.mono (fileAsked10 a _) ?_
  rintro v W2 ⟨rfl, u2⟩
  replace hu := hu.trans u2
  replace qa : AskS0 ba a W2 := u2.get qa (fun h => h)
  simp [go_sem, Go.Eng.Ch.contJ_app qa]
  refine CallP.mono fileSame_any ?_
  rintro v W3 ⟨x, rfl, hx, u3⟩
  replace hx := hx.trans hS
  replace hu := hu.trans u3
  replace qa : AskS0 ba a W3 := u3.get qa (fun h => h)
  clear u2 u3
  cases x with
  | false =>
    have hS : ¬ ({ zeroAS with f := { zeroA with file := a.file }, lok := A.lok } : AskS) = A := fun h => by have := hx.2 h; cases this
    have hA : ¬ askF10.mkS (askF10.unS A) = A := by
      intro h
      apply hS
      have hl : (A.lok.map lockTo).map lockOf = A.lok := congrArg AskS.lok h
      conv => rhs; rw [← h]
      show _ = ({ zeroAS with lok := (A.lok.map lockTo).map lockOf, f := { zeroA with file := A.f.file } } : AskS)
      rw [hl, ha.f]
      rfl
    simp [go_sem, Go.Eng.Ch.contJ_app qa]
    rw [askF10.put_no hA]
    exact ⟨hu, rfl⟩
  | true =>
    have hS := hx.1 rfl
    have hdat : A.dat = [] := by rw [← hS]; rfl
    have hnd : a.data.n = 0 := by rw [ha.nums.2.1, hdat]; rfl
    have hnl : a.locks.n = A.lok.length := ha.nums.2.2
    have hll := ha.ll
    have hiff := ask10_iff hS
    have qh : W3.heap[ba]? = some (.cells a.cells 34 (0, 0)) := qa
    simp [go_sem, Go.Eng.Ch.contJ_app qa, qh]
    refine den_loop (OqI w ba a A.lok) A.lok.length ?_ ?_
    · exact ⟨0, rfl, by omega, by simp, hu, qh, by simp [go_sem], by simp [go_sem, hnl], by simp [go_sem], by simp [go_sem], by simp [go_sem]⟩
    clear hu qa qh
    rintro m ρ W ⟨i, rfl, hi, hop, hu, qh, g23, g24, g25, g3, g0⟩
    by_cases hlt : i < A.lok.length
    · have hlt' : (i : Int) < A.lok.length := by omega
      have hwr : IntKind.i64.wrap ((i : Int) + 1) = ((i + 1 : Nat) : Int) := wrap64_id (by omega) (by omega)
      obtain ⟨q, hidx, hK⟩ := lock_load (ha.keep hu).lok i hlt
      obtain ⟨y, hy⟩ : ∃ y, y = A.lok[i] := ⟨_, rfl⟩
      rw [← hy] at hK
      simp [go_sem, g23, g24, g25, g3, g0, hlt', hlt, hidx, hK, LockV.row]
      by_cases hop0 : y.open_ = 0
      · simp [go_sem, hop0, hwr, g25]
        refine ⟨A.lok.length - (i + 1), by omega, i + 1, rfl, by omega, ?_, (hu.alloc _).setB _ _ (fun h => absurd h (by have := hu.size; omega)), ?_, by simp [go_sem, g23], by simp [go_sem, g24], by simp [go_sem], by simp [go_sem, g3], by simp [go_sem, g0]⟩
        · intro z hz
          rw [List.take_succ_eq_append_getElem hlt, List.mem_append] at hz
          rcases hz with hz | hz
          · exact hop z hz
          · simp at hz
            rw [hz, ← hy]; exact hop0
        · have hbl := (Array.getElem?_eq_some_iff.1 qh).1
          rw [heap_setB, if_neg (by omega), heap_alloc, if_neg (by omega)]
          exact qh
      · simp [go_sem, hop0]
        have hA : ¬ askF10.mkS (askF10.unS A) = A := fun h => hop0 (by rw [hy]; exact hiff.1 h _ (List.getElem_mem hlt))
        rw [askF10.put_no hA]
        exact ⟨(hu.alloc _).setB _ _ (fun h => absurd h (by have := hu.size; omega)), rfl⟩
    · obtain rfl : i = A.lok.length := by omega
      rw [List.take_length] at hop
      have hA := hiff.2 hop
      by_cases hlim : 16 < A.lok.length
      · have hlim' : 16 < (a.locks.n : Int) := by omega
        have hlim2 : 16 < a.locks.n := by omega
        have hpre : askF10.pre A = 3 := if_pos hlim
        simp [go_sem, g23, g24, g25, g3, g0, qh, hnd, hlim', hlim2]
        rw [askF10.put_pre hA (by rw [hpre]; decide), hpre]
        exact ⟨hu, rfl⟩
      · have hlim' : ¬ 16 < (a.locks.n : Int) := by omega
        have hlim2 : ¬ 16 < a.locks.n := by omega
        have cn : IntKind.u64.wrap (a.locks.n : Int) = a.locks.n := wrap64 (by omega) (by omega)
        simp [go_sem, g23, g24, g25, g3, g0, qh, hnd, hlim', hlim2]
        refine gen_load ?_
        intro Wb hWb
        have hq : Wb.heap[ba]? = some (.cells a.cells 34 (0, 0)) := by rw [hWb, heap_alloc, if_neg (by have := (Array.getElem?_eq_some_iff.1 qh).1; omega)]; exact qh
        have hc : Wb.heap[W.heap.size]? = some (.cells #[.slice none 0 0] 135 (0, 0)) := by rw [hWb, heap_alloc, if_pos rfl]
        have hsz : Wb.heap.size = W.heap.size + 1 := by rw [hWb]; simp
        have hub : Upd noB w Wb := by rw [hWb]; exact hu.alloc _
        have hne : ba ≠ W.heap.size := by have := (Array.getElem?_eq_some_iff.1 qh).1; omega
        have g : FQ w Wb Wb ba W.heap.size a [] := ⟨⟨Upd.refl _ _, ⟨by omega, rfl⟩, none, 0, 0, hc, nil_own _ _⟩, hub, hq, hne, hu.size⟩
        clear hq hc hsz hub hWb
        generalize W.heap.size = bw at g ⊢
        have qa := g.qa
        simp [go_sem, g25, g24, g3, g0, qa]
        refine CallP.mono (g.n (k := 8) (by decide) ok.file.1 ok.file.2 (by simp [leB_len]; try omega)) ?_
        clear qa g
        rintro v W4 g
        have qa := g.qa
        simp [go_sem, g25, g24, g3, g0, qa, cn]
        refine CallP.mono (g.n (k := 4) (by decide) (show (0 : Int) ≤ (a.locks.n : Int) by omega) (show (a.locks.n : Int) < 256 ^ 4 by omega) (by simp [leB_len]; try omega)) ?_
        clear qa g
        rintro v W4 g
        have qa := g.qa
        simp [go_sem, g25, g24, g3, g0, qa, cn]
        obtain ⟨pre, hpre⟩ : ∃ pre, pre = (([] ++ leB a.file.toNat 8) ++ leB ((a.locks.n : Int)).toNat 4) := ⟨_, rfl⟩
        rw [← hpre] at g
        have hprel : pre.length = 12 := by rw [hpre]; simp [leB_len]
        refine den_loop (LqI w Wb ba bw a A.lok pre) A.lok.length ?_ ?_
        · exact ⟨0, rfl, by omega, by simp [go_sem, g3], by simp [go_sem], by simp [go_sem], by simp [go_sem, hnl], by simp [go_sem], by simpa using g⟩
        clear qa g g3 g0 g23 g24 g25 qh
        rintro m ρ' W5 ⟨i, rfl, hi, g3, g8, g111, g112, g113, g⟩
        have qa := g.qa
        by_cases hlt : i < A.lok.length
        · have hlt' : (i : Int) < A.lok.length := by omega
          have hwr : IntKind.i64.wrap ((i : Int) + 1) = ((i + 1 : Nat) : Int) := wrap64_id (by omega) (by omega)
          obtain ⟨q, hidx, hK⟩ := lock_load (ha.keep g.all).lok i hlt
          obtain ⟨y, hy⟩ : ∃ y, y = A.lok[i] := ⟨_, rfl⟩
          rw [← hy] at hK
          have oky := okl y (by rw [hy]; exact List.getElem_mem hlt)
          have hfl : ((A.lok.take i).flatMap lockB).length = 20 * i := by rw [lockB_fl, List.length_take]; omega
          have cm : IntKind.u64.wrap y.mode = y.mode := wrap64 oky.mode.1 (by have := oky.mode; omega)
          simp [go_sem, g3, g8, g111, g112, g113, hlt', hlt, hidx, hK, LockV.row]
          refine gen_call ?_
          intro W6 hW
          have u6 : Upd noB W5 W6 := by rw [hW]; exact ((Upd.refl _ _).alloc _).setB _ _ (fun h => absurd h (by omega))
          have hx6 : W6.heap[W5.heap.size]? = some (.cells #[.int .i64 y.open_, .int .u64 y.at_, .int .u64 y.n, .int .u16 y.mode] 110 (0, 0)) := by rw [hW, heap_setB, if_pos rfl, heap_alloc, if_pos rfl]; rfl
          clear hW
          have J := g.I.toY u6 hx6
          generalize W5.heap.size = bx at J hx6 ⊢
          refine CallP.mono (fileWY J (k := 8) (by decide) oky.at_.1 oky.at_.2 (by rw [List.length_append, hfl]; omega)) ?_
          clear J hx6
          rintro v W7 J
          have hx7 := J.qx
          simp [go_sem, g3, g8, g111, g112, g113, hx7]
          refine CallP.mono (fileWY J (k := 8) (by decide) oky.n.1 oky.n.2 (by rw [List.length_append, List.length_append, hfl, leB_len]; omega)) ?_
          clear J hx7
          rintro v W8 J
          have hx8 := J.qx
          simp [go_sem, g3, g8, g111, g112, g113, hx8, cm]
          refine CallP.mono (fileWY J (k := 4) (by decide) oky.mode.1 (by have := oky.mode; omega) (by rw [List.length_append, List.length_append, List.length_append, hfl, leB_len, leB_len]; omega)) ?_
          clear J hx8
          rintro v W9 J
          simp [go_sem, g3, g8, g111, g112, g113, hwr]
          refine ⟨A.lok.length - (i + 1), by omega, i + 1, rfl, by omega, by simp [go_sem, g3], by simp [go_sem, g8], by simp [go_sem, g111], by simp [go_sem, g112], by simp [go_sem], ?_⟩
          have e : pre ++ (A.lok.take (i + 1)).flatMap lockB = ((pre ++ (A.lok.take i).flatMap lockB) ++ leB y.at_.toNat 8) ++ leB y.n.toNat 8 ++ leB y.mode.toNat 4 := by
            rw [flat_snoc lockB _ _ y (by rw [List.getElem?_eq_getElem hlt, hy]), lockB_eq oky]
            simp only [List.append_assoc]
          rw [e]
          exact ⟨J.toI, g.u, g.q, g.ne⟩
        · obtain rfl : i = A.lok.length := by omega
          rw [List.take_length] at g
          obtain ⟨p, n, c, hc, own⟩ := g.I.cell
          simp [go_sem, g3, g8, g111, g112, g113, hc]
          have hput : askF10.put A = .ok (leB a.file.toNat 8 ++ (leB A.lok.length 2 ++ (leB 0 2 ++ A.lok.flatMap lockB))) := by
            rw [askF10.put_ok hA (if_neg hlim)]
            have e : askF10.unS A = (a.file, (A.lok.length : Int), (), A.lok.map lockTo) := by unfold askF10; simp only [ha.f]; rfl
            rw [e]
            have hl : (listC lockC ((A.lok.length : Int)).toNat).put (A.lok.map lockTo) = .ok (A.lok.flatMap lockB) := by
              have h1 : ((A.lok.length : Int)).toNat = (A.lok.map lockTo).length := by simp
              have h2 : ∀ x ∈ A.lok.map lockTo, lockC.put x = .ok (lockB (lockOf x)) := by
                intro x hx
                obtain ⟨z, hz, rfl⟩ := List.mem_map.1 hx
                have h3 : lockOf (lockTo z) = z := by have := hop z hz; cases z; simp only at this; subst this; rfl
                rw [h3]
                exact lockC_put (okl z hz)
              rw [h1, list_put (fun x => lockB (lockOf x)) h2]
              rw [lock_flat _ hop]
            exact seq_put (D := fun _ => _) (num_put ok.file.1 ok.file.2) (seq_put (D := fun n => seqC (zeroC 2) fun _ => listC lockC n.toNat) (most_put (by omega) (by omega) (by omega)) (seq_put (D := fun _ => _) zero2_put hl))
          refine ⟨g.all, ?_⟩
          rw [hput]
          refine ⟨_, rfl, ?_⟩
          have e : leB a.file.toNat 8 ++ (leB A.lok.length 2 ++ (leB 0 2 ++ A.lok.flatMap lockB)) = pre ++ A.lok.flatMap lockB := by
            have en : ((a.locks.n : Int)).toNat = A.lok.length := by omega
            rw [hpre, en, leB_4 _ (by omega)]
            simp only [List.nil_append, List.append_assoc]
          rw [e]
          exact own_base own (by have := g.u.size; omega)
end Go.Proofs.YtinfdomlpbikaaaGreatDoor
namespace Go.Proofs.YtinfdomlpbikaaaGreatDoor
open Go.Eng Go.Lib
set_option linter.unusedSimpArgs false
set_option linter.unusedVariables false
set_option maxRecDepth 100000
variable {w w0 : World}
def SayS0 (ba : Nat) (A : SayV) (W : World) : Prop := W.heap[ba]? = some (.cells A.cells 39 (0, 0))
theorem SayS0.load {ba : Nat} {a : SayV} {W : World} (h : SayS0 ba a W) : (Instr.loadAt 39 (.pointer (some ⟨ba, 0, none⟩))).run Tryz.prog W = .ok (.agg a.cells) W := by
  have e := run_loadAgg (P := Tryz.prog) (w := W) (Tryz.isAgg39 W) (Tryz.sizeOf39 W) ba 0 h (by rw [SayV.size]; omega)
  rw [e]
  congr 2
  apply Array.toList_inj.1
  have hl : a.cells.toList.length = 20 := a.row_len
  simp [List.take_of_length_le, hl]
theorem same_iffS {a X : SayV} {A S : SayS} (ha : SayAt w a A) (hf : S.f = X.bare) (ht : (X.data = ⟨none, 0, 0⟩ ∧ S.dat = []) ∨ (X.data = a.data ∧ S.dat = A.dat)) (hl : (X.entries = ⟨none, 0, 0⟩ ∧ S.ent = []) ∨ (X.entries = a.entries ∧ S.ent = A.ent)) : SameNS X a ↔ S = A := by
  obtain ⟨n2, n3⟩ := ha.nums
  have z : ∀ {α : Type} {L : List α} {n : Nat}, n = L.length → (0 = n ↔ [] = L) := by
    intro α L n h
    subst h
    exact ⟨fun e => (List.length_eq_zero_iff.1 e.symm).symm, fun e => by rw [← e]; rfl⟩
  have e2 : X.data.n = a.data.n ↔ S.dat = A.dat := by
    rcases ht with ⟨h1, h2⟩ | ⟨h1, h2⟩
    · rw [h1, h2]; exact z n2
    · rw [h1, h2]; exact ⟨fun _ => rfl, fun _ => rfl⟩
  have e3 : X.entries.n = a.entries.n ↔ S.ent = A.ent := by
    rcases hl with ⟨h1, h2⟩ | ⟨h1, h2⟩
    · rw [h1, h2]; exact z n3
    · rw [h1, h2]; exact ⟨fun _ => rfl, fun _ => rfl⟩
  unfold SameNS
  rw [e2, e3, ← hf, ← ha.f]
  constructor
  · rintro ⟨h1, h3, h4⟩
    cases S; cases A
    simp only at *
    rw [h1, h3, h4]
  · rintro rfl
    exact ⟨rfl, rfl, rfl⟩
structure GQ (w wb W : World) (ba bw : Nat) (o : Obj) (l : List UInt8) : Prop where
  I : WrI wb W bw wb.heap.size 135 l
  u : Upd noB w wb
  q : wb.heap[ba]? = some o
  ne : ba ≠ bw ∧ w.heap.size ≤ bw
theorem GQ.qa {w wb W : World} {ba bw : Nat} {o : Obj} {l : List UInt8} (h : GQ w wb W ba bw o l) : W.heap[ba]? = some o := h.I.u.get h.q h.ne.1
theorem GQ.all {w wb W : World} {ba bw : Nat} {o : Obj} {l : List UInt8} (h : GQ w wb W ba bw o l) : Upd noB w W := h.u.trans' h.I.u (fun i hi hlt => by have := h.ne.2; omega)
theorem GQ.n {w wb W : World} {ba bw : Nat} {o : Obj} {l : List UInt8} {z : Int} {k : Nat} (h : GQ w wb W ba bw o l) (hk : sizeOk k) (h0 : 0 ≤ z) (h1 : z < 256 ^ k) (hl : l.length ≤ 1099511627776) :
    CallP Tryz.prog 119 #[.pointer (some ⟨bw, 0, none⟩), .int .u64 z, .int .i64 k] W (fun r w' => GQ w wb w' ba bw o (l ++ leB z.toNat k)) :=
  CallP.mono (fileW h.I hk h0 h1 hl) (fun _ _ I => ⟨I, h.u, h.q, h.ne⟩)
theorem GQ.keep0 {w wb W W' : World} {ba bw : Nat} {o : Obj} {l : List UInt8} (h : GQ w wb W ba bw o l) (u : Upd noB W W') : GQ w wb W' ba bw o l := by
  obtain ⟨p, n, c, hc, own⟩ := h.I.cell
  exact ⟨⟨h.I.u.trans (u.mono (fun _ _ h => h.elim)), h.I.lt, p, n, c, u.get hc (fun h => h), own_keep0 own u⟩, h.u, h.q, h.ne⟩
theorem GQ.wrote {w wb W W' : World} {ba bw : Nat} {o : Obj} {l l' : List UInt8} {p : Option Addr} {n c : Nat} (h : GQ w wb W ba bw o l) (u : Upd (fun i => wb.heap.size ≤ i) W W') (own : OwnB W' wb.heap.size (.slice p n c) l') :
    GQ w wb (W'.setB bw (.cells #[.slice p n c] 135 (0, 0))) ba bw o l' := by
  obtain ⟨p0, n0, c0, hc, _⟩ := h.I.cell
  have hlt := h.I.lt
  have hc' := u.get hc (by omega)
  refine ⟨⟨(h.I.u.trans' u (fun i hi hlt => by omega)).setB _ _ (fun _ => rfl), hlt, p, n, c, by rw [heap_setB, if_pos rfl, hc']; rfl, ?_⟩, h.u, h.q, h.ne⟩
  exact own_above own (Upd.setB (Upd.refl (fun x => x = bw) _) _ _ (fun _ => rfl)) (fun i h => by subst h; omega)
theorem fileSaid5 (a : SayV) (w : World) : CallP Tryz.prog 128 #[.int .u16 5, .agg a.cells] w (fun r w' => r = .agg (SayV.cells (SayV.mk zeroS.dialect a.size_ zeroS.challenge a.level a.durable a.made a.file a.kind zeroS.data zeroS.n zeroS.entries zeroS.more zeroS.gone)) ∧ Upd noB w w') := by
  refine call_den (args := [_, _]) Tryz.func128 rfl rfl (by simp [Tryz.ntmps128]) ?_
  simp [go_sem]
  exact (by repeat (first | exact Upd.refl _ _ | refine Upd.alloc ?_ _ | refine Upd.drew ?_ | refine Upd.drewN ?_ _ | refine Upd.setB ?_ _ _ (fun h => absurd h (by omega))))
theorem fileSaid8 (a : SayV) (w : World) : CallP Tryz.prog 128 #[.int .u16 8, .agg a.cells] w (fun r w' => r = .agg (SayV.cells (SayV.mk zeroS.dialect zeroS.size_ zeroS.challenge zeroS.level zeroS.durable zeroS.made zeroS.file zeroS.kind a.data zeroS.n zeroS.entries zeroS.more zeroS.gone)) ∧ Upd noB w w') := by
  refine call_den (args := [_, _]) Tryz.func128 rfl rfl (by simp [Tryz.ntmps128]) ?_
  simp [go_sem]
  exact (by repeat (first | exact Upd.refl _ _ | refine Upd.alloc ?_ _ | refine Upd.drew ?_ | refine Upd.drewN ?_ _ | refine Upd.setB ?_ _ _ (fun h => absurd h (by omega))))
theorem fileSaid9 (a : SayV) (w : World) : CallP Tryz.prog 128 #[.int .u16 9, .agg a.cells] w (fun r w' => r = .agg (SayV.cells (SayV.mk zeroS.dialect zeroS.size_ zeroS.challenge zeroS.level zeroS.durable zeroS.made zeroS.file zeroS.kind zeroS.data a.n zeroS.entries zeroS.more zeroS.gone)) ∧ Upd noB w w') := by
  refine call_den (args := [_, _]) Tryz.func128 rfl rfl (by simp [Tryz.ntmps128]) ?_
  simp [go_sem]
  exact (by repeat (first | exact Upd.refl _ _ | refine Upd.alloc ?_ _ | refine Upd.drew ?_ | refine Upd.drewN ?_ _ | refine Upd.setB ?_ _ _ (fun h => absurd h (by omega))))
theorem fileSaid6 (a : SayV) (w : World) : CallP Tryz.prog 128 #[.int .u16 6, .agg a.cells] w (fun r w' => r = .agg (SayV.cells (SayV.mk zeroS.dialect zeroS.size_ zeroS.challenge zeroS.level zeroS.durable zeroS.made zeroS.file zeroS.kind zeroS.data zeroS.n zeroS.entries zeroS.more zeroS.gone)) ∧ Upd noB w w') := by
  refine call_den (args := [_, _]) Tryz.func128 rfl rfl (by simp [Tryz.ntmps128]) ?_
  simp [go_sem]
  exact (by repeat (first | exact Upd.refl _ _ | refine Upd.alloc ?_ _ | refine Upd.drew ?_ | refine Upd.drewN ?_ _ | refine Upd.setB ?_ _ _ (fun h => absurd h (by omega))))
theorem fileSaid7 (a : SayV) (w : World) : CallP Tryz.prog 128 #[.int .u16 7, .agg a.cells] w (fun r w' => r = .agg (SayV.cells (SayV.mk zeroS.dialect zeroS.size_ zeroS.challenge zeroS.level zeroS.durable zeroS.made zeroS.file zeroS.kind zeroS.data zeroS.n zeroS.entries zeroS.more zeroS.gone)) ∧ Upd noB w w') := by
  refine call_den (args := [_, _]) Tryz.func128 rfl rfl (by simp [Tryz.ntmps128]) ?_
  simp [go_sem]
  exact (by repeat (first | exact Upd.refl _ _ | refine Upd.alloc ?_ _ | refine Upd.drew ?_ | refine Upd.drewN ?_ _ | refine Upd.setB ?_ _ _ (fun h => absurd h (by omega))))
theorem fileSaid10 (a : SayV) (w : World) : CallP Tryz.prog 128 #[.int .u16 10, .agg a.cells] w (fun r w' => r = .agg (SayV.cells (SayV.mk zeroS.dialect zeroS.size_ zeroS.challenge zeroS.level zeroS.durable zeroS.made zeroS.file zeroS.kind zeroS.data zeroS.n zeroS.entries zeroS.more zeroS.gone)) ∧ Upd noB w w') := by
  refine call_den (args := [_, _]) Tryz.func128 rfl rfl (by simp [Tryz.ntmps128]) ?_
  simp [go_sem]
  exact (by repeat (first | exact Upd.refl _ _ | refine Upd.alloc ?_ _ | refine Upd.drew ?_ | refine Upd.drewN ?_ _ | refine Upd.setB ?_ _ _ (fun h => absurd h (by omega))))
set_option maxHeartbeats 2000000 in
theorem filePutSay6 {a : SayV} {A : SayS} (ha : SayAt w a A) (ok : a.ok) : CallP Tryz.prog 86 #[.int .u16 6, .agg a.cells] w (fun r w' => Upd noB w w' ∧ PutR w' w.heap.size r (sayFz.put A)) := by
  have hS : SameNS (SayV.mk zeroS.dialect zeroS.size_ zeroS.challenge zeroS.level zeroS.durable zeroS.made zeroS.file zeroS.kind zeroS.data zeroS.n zeroS.entries zeroS.more zeroS.gone) a ↔ sayFz.mkS (sayFz.unS A) = A := same_iffS ha (by unfold sayFz; simp only [ha.f]; rfl) (Or.inl ⟨rfl, rfl⟩) (Or.inl ⟨rfl, rfl⟩)
  refine call_den (args := [_, _]) Tryz.func86 rfl rfl (by simp [Tryz.ntmps86]) ?_
  simp [go_sem]
  refine gen_draw ?_
  intro W hW
  have hu : Upd noB w W := by rw [hW]; exact (by repeat (first | exact Upd.refl _ _ | refine Upd.alloc ?_ _ | refine Upd.drew ?_ | refine Upd.drewN ?_ _ | refine Upd.setB ?_ _ _ (fun h => absurd h (by omega))))
  have qa : SayS0 w.heap.size a W := by unfold SayS0; rw [hW, heap_alloc, if_pos rfl]
  clear hW
  generalize hba : w.heap.size = ba at qa ⊢
  refine Go.Eng.Ch.draw_script [.pure 0, .one 1, .one 2, .pure 3, .pure 4, .chain [5, 7] [6], .one 8, .one 9, .one 10, .pure 11, .pure 12, .one 13, .one 14, .one 15, .pure 16, .pure 17, .one 18, .one 19, .one 20, .pure 21] (by kernel_rfl) (by kernel_rfl) (by kernel_rfl) ?_
  simp [go_sem]
  replace hu := hu.drew
  have qa' : SayS0 ba a W.drew := qa
  refine CallP.mono (fileKnown_any _ _) ?_
  rintro v W1 ⟨rfl, hW1⟩
  replace hu : Upd noB w W1 := by rw [hW1]; exact hu
  replace qa : SayS0 ba a W1 := by rw [hW1]; exact qa'
  clear hW1 qa'
  simp [go_sem, known9]
  haveI : Nonempty { W : World // SayS0 ba a W } := ⟨⟨W1, qa⟩⟩
  have ql := Q_load_fix (P := Tryz.prog) (W := fun i : { W : World // SayS0 ba a W } => i.1) (fun i => i.2.load)
  refine Go.Eng.Ch.opsPh_chain _ _ (SayS0 ba a) qa ?_
  simp [go_sem, ql]
  refine CallP.mono (fileSaid6 a _) ?_
  rintro v W2 ⟨rfl, u2⟩
  replace hu := hu.trans u2
  replace qa : SayS0 ba a W2 := u2.get qa (fun h => h)
  simp [go_sem, Go.Eng.Ch.contJ_app qa]
  refine CallP.mono fileSameSay_any ?_
  rintro v W3 ⟨x, rfl, hx, u3⟩
  replace hx := hx.trans hS
  replace hu := hu.trans u3
  replace qa : SayS0 ba a W3 := u3.get qa (fun h => h)
  have qh : W3.heap[ba]? = some (.cells a.cells 39 (0, 0)) := qa
  clear u2 u3
  cases x with
  | false =>
    have hA : ¬ sayFz.mkS (sayFz.unS A) = A := fun h => by have := hx.2 h; cases this
    simp [go_sem, Go.Eng.Ch.contJ_app qa]
    rw [sayFz.put_no hA]
    exact ⟨hu, rfl⟩
  | true =>
    have hA := hx.1 rfl
    have hm : a.made = 0 := show a.bare.made = 0 by rw [← ha.f, ← hA]; rfl
    have hk : a.kind = 0 := show a.bare.kind = 0 by rw [← ha.f, ← hA]; rfl
    have hnd : a.data.n = 0 := by rw [ha.nums.1, ← hA]; rfl
    simp [go_sem, Go.Eng.Ch.contJ_app qa, qh, hm, hk, hnd]
    refine gen_call ?_
    intro Wb hWb
    have hq : Wb.heap[ba]? = some (.cells a.cells 39 (0, 0)) := by rw [hWb, heap_alloc, if_neg (by have := (Array.getElem?_eq_some_iff.1 qh).1; omega)]; exact qh
    have hc : Wb.heap[W3.heap.size]? = some (.cells #[.slice none 0 0] 135 (0, 0)) := by rw [hWb, heap_alloc, if_pos rfl]
    have hsz : Wb.heap.size = W3.heap.size + 1 := by rw [hWb]; simp
    have hub : Upd noB w Wb := by rw [hWb]; exact hu.alloc _
    have hne : ba ≠ W3.heap.size := by have := (Array.getElem?_eq_some_iff.1 qh).1; omega
    have g : GQ w Wb Wb ba W3.heap.size _ [] := ⟨⟨Upd.refl _ _, ⟨by omega, rfl⟩, none, 0, 0, hc, nil_own _ _⟩, hub, hq, hne, hu.size⟩
    clear hq hc hsz hub hWb
    generalize W3.heap.size = bw at g ⊢
    have qa := g.qa
    refine CallP.mono (g.n (k := 4) (by decide) (by decide) (by decide) (by simp [leB_len]; try omega)) ?_
    clear qa g
    rintro v W4 g
    have qa := g.qa
    have hput : sayFz.put A = .ok (leB (0 : Int).toNat 4) := by rw [sayFz.put_ok hA rfl]; exact zero4_put
    obtain ⟨p, n, c, hc, own⟩ := g.I.cell
    simp [go_sem, hc]
    rw [hput]
    refine ⟨g.all, _, rfl, ?_⟩
    simp only [List.append_assoc, List.nil_append] at own
    exact own_base own (by have := g.u.size; omega)
set_option maxHeartbeats 2000000 in
theorem filePutSay7 {a : SayV} {A : SayS} (ha : SayAt w a A) (ok : a.ok) : CallP Tryz.prog 86 #[.int .u16 7, .agg a.cells] w (fun r w' => Upd noB w w' ∧ PutR w' w.heap.size r (sayFz.put A)) := by
  have hS : SameNS (SayV.mk zeroS.dialect zeroS.size_ zeroS.challenge zeroS.level zeroS.durable zeroS.made zeroS.file zeroS.kind zeroS.data zeroS.n zeroS.entries zeroS.more zeroS.gone) a ↔ sayFz.mkS (sayFz.unS A) = A := same_iffS ha (by unfold sayFz; simp only [ha.f]; rfl) (Or.inl ⟨rfl, rfl⟩) (Or.inl ⟨rfl, rfl⟩)
  refine call_den (args := [_, _]) Tryz.func86 rfl rfl (by simp [Tryz.ntmps86]) ?_
  simp [go_sem]
  refine gen_draw ?_
  intro W hW
  have hu : Upd noB w W := by rw [hW]; exact (by repeat (first | exact Upd.refl _ _ | refine Upd.alloc ?_ _ | refine Upd.drew ?_ | refine Upd.drewN ?_ _ | refine Upd.setB ?_ _ _ (fun h => absurd h (by omega))))
  have qa : SayS0 w.heap.size a W := by unfold SayS0; rw [hW, heap_alloc, if_pos rfl]
  clear hW
  generalize hba : w.heap.size = ba at qa ⊢
  refine Go.Eng.Ch.draw_script [.pure 0, .one 1, .one 2, .pure 3, .pure 4, .chain [5, 7] [6], .one 8, .one 9, .one 10, .pure 11, .pure 12, .one 13, .one 14, .one 15, .pure 16, .pure 17, .one 18, .one 19, .one 20, .pure 21] (by kernel_rfl) (by kernel_rfl) (by kernel_rfl) ?_
  simp [go_sem]
  replace hu := hu.drew
  have qa' : SayS0 ba a W.drew := qa
  refine CallP.mono (fileKnown_any _ _) ?_
  rintro v W1 ⟨rfl, hW1⟩
  replace hu : Upd noB w W1 := by rw [hW1]; exact hu
  replace qa : SayS0 ba a W1 := by rw [hW1]; exact qa'
  clear hW1 qa'
  simp [go_sem, known9]
  haveI : Nonempty { W : World // SayS0 ba a W } := ⟨⟨W1, qa⟩⟩
  have ql := Q_load_fix (P := Tryz.prog) (W := fun i : { W : World // SayS0 ba a W } => i.1) (fun i => i.2.load)
  refine Go.Eng.Ch.opsPh_chain _ _ (SayS0 ba a) qa ?_
  simp [go_sem, ql]
  refine CallP.mono (fileSaid7 a _) ?_
  rintro v W2 ⟨rfl, u2⟩
  replace hu := hu.trans u2
  replace qa : SayS0 ba a W2 := u2.get qa (fun h => h)
  simp [go_sem, Go.Eng.Ch.contJ_app qa]
  refine CallP.mono fileSameSay_any ?_
  rintro v W3 ⟨x, rfl, hx, u3⟩
  replace hx := hx.trans hS
  replace hu := hu.trans u3
  replace qa : SayS0 ba a W3 := u3.get qa (fun h => h)
  have qh : W3.heap[ba]? = some (.cells a.cells 39 (0, 0)) := qa
  clear u2 u3
  cases x with
  | false =>
    have hA : ¬ sayFz.mkS (sayFz.unS A) = A := fun h => by have := hx.2 h; cases this
    simp [go_sem, Go.Eng.Ch.contJ_app qa]
    rw [sayFz.put_no hA]
    exact ⟨hu, rfl⟩
  | true =>
    have hA := hx.1 rfl
    have hm : a.made = 0 := show a.bare.made = 0 by rw [← ha.f, ← hA]; rfl
    have hk : a.kind = 0 := show a.bare.kind = 0 by rw [← ha.f, ← hA]; rfl
    have hnd : a.data.n = 0 := by rw [ha.nums.1, ← hA]; rfl
    simp [go_sem, Go.Eng.Ch.contJ_app qa, qh, hm, hk, hnd]
    refine gen_call ?_
    intro Wb hWb
    have hq : Wb.heap[ba]? = some (.cells a.cells 39 (0, 0)) := by rw [hWb, heap_alloc, if_neg (by have := (Array.getElem?_eq_some_iff.1 qh).1; omega)]; exact qh
    have hc : Wb.heap[W3.heap.size]? = some (.cells #[.slice none 0 0] 135 (0, 0)) := by rw [hWb, heap_alloc, if_pos rfl]
    have hsz : Wb.heap.size = W3.heap.size + 1 := by rw [hWb]; simp
    have hub : Upd noB w Wb := by rw [hWb]; exact hu.alloc _
    have hne : ba ≠ W3.heap.size := by have := (Array.getElem?_eq_some_iff.1 qh).1; omega
    have g : GQ w Wb Wb ba W3.heap.size _ [] := ⟨⟨Upd.refl _ _, ⟨by omega, rfl⟩, none, 0, 0, hc, nil_own _ _⟩, hub, hq, hne, hu.size⟩
    clear hq hc hsz hub hWb
    generalize W3.heap.size = bw at g ⊢
    have qa := g.qa
    refine CallP.mono (g.n (k := 4) (by decide) (by decide) (by decide) (by simp [leB_len]; try omega)) ?_
    clear qa g
    rintro v W4 g
    have qa := g.qa
    have hput : sayFz.put A = .ok (leB (0 : Int).toNat 4) := by rw [sayFz.put_ok hA rfl]; exact zero4_put
    obtain ⟨p, n, c, hc, own⟩ := g.I.cell
    simp [go_sem, hc]
    rw [hput]
    refine ⟨g.all, _, rfl, ?_⟩
    simp only [List.append_assoc, List.nil_append] at own
    exact own_base own (by have := g.u.size; omega)
set_option maxHeartbeats 2000000 in
theorem filePutSay10 {a : SayV} {A : SayS} (ha : SayAt w a A) (ok : a.ok) : CallP Tryz.prog 86 #[.int .u16 10, .agg a.cells] w (fun r w' => Upd noB w w' ∧ PutR w' w.heap.size r (sayFz.put A)) := by
  have hS : SameNS (SayV.mk zeroS.dialect zeroS.size_ zeroS.challenge zeroS.level zeroS.durable zeroS.made zeroS.file zeroS.kind zeroS.data zeroS.n zeroS.entries zeroS.more zeroS.gone) a ↔ sayFz.mkS (sayFz.unS A) = A := same_iffS ha (by unfold sayFz; simp only [ha.f]; rfl) (Or.inl ⟨rfl, rfl⟩) (Or.inl ⟨rfl, rfl⟩)
  refine call_den (args := [_, _]) Tryz.func86 rfl rfl (by simp [Tryz.ntmps86]) ?_
  simp [go_sem]
  refine gen_draw ?_
  intro W hW
  have hu : Upd noB w W := by rw [hW]; exact (by repeat (first | exact Upd.refl _ _ | refine Upd.alloc ?_ _ | refine Upd.drew ?_ | refine Upd.drewN ?_ _ | refine Upd.setB ?_ _ _ (fun h => absurd h (by omega))))
  have qa : SayS0 w.heap.size a W := by unfold SayS0; rw [hW, heap_alloc, if_pos rfl]
  clear hW
  generalize hba : w.heap.size = ba at qa ⊢
  refine Go.Eng.Ch.draw_script [.pure 0, .one 1, .one 2, .pure 3, .pure 4, .chain [5, 7] [6], .one 8, .one 9, .one 10, .pure 11, .pure 12, .one 13, .one 14, .one 15, .pure 16, .pure 17, .one 18, .one 19, .one 20, .pure 21] (by kernel_rfl) (by kernel_rfl) (by kernel_rfl) ?_
  simp [go_sem]
  replace hu := hu.drew
  have qa' : SayS0 ba a W.drew := qa
  refine CallP.mono (fileKnown_any _ _) ?_
  rintro v W1 ⟨rfl, hW1⟩
  replace hu : Upd noB w W1 := by rw [hW1]; exact hu
  replace qa : SayS0 ba a W1 := by rw [hW1]; exact qa'
  clear hW1 qa'
  simp [go_sem, known9]
  haveI : Nonempty { W : World // SayS0 ba a W } := ⟨⟨W1, qa⟩⟩
  have ql := Q_load_fix (P := Tryz.prog) (W := fun i : { W : World // SayS0 ba a W } => i.1) (fun i => i.2.load)
  refine Go.Eng.Ch.opsPh_chain _ _ (SayS0 ba a) qa ?_
  simp [go_sem, ql]
  refine CallP.mono (fileSaid10 a _) ?_
  rintro v W2 ⟨rfl, u2⟩
  replace hu := hu.trans u2
  replace qa : SayS0 ba a W2 := u2.get qa (fun h => h)
  simp [go_sem, Go.Eng.Ch.contJ_app qa]
  refine CallP.mono fileSameSay_any ?_
  rintro v W3 ⟨x, rfl, hx, u3⟩
  replace hx := hx.trans hS
  replace hu := hu.trans u3
  replace qa : SayS0 ba a W3 := u3.get qa (fun h => h)
  have qh : W3.heap[ba]? = some (.cells a.cells 39 (0, 0)) := qa
  clear u2 u3
  cases x with
  | false =>
    have hA : ¬ sayFz.mkS (sayFz.unS A) = A := fun h => by have := hx.2 h; cases this
    simp [go_sem, Go.Eng.Ch.contJ_app qa]
    rw [sayFz.put_no hA]
    exact ⟨hu, rfl⟩
  | true =>
    have hA := hx.1 rfl
    have hm : a.made = 0 := show a.bare.made = 0 by rw [← ha.f, ← hA]; rfl
    have hk : a.kind = 0 := show a.bare.kind = 0 by rw [← ha.f, ← hA]; rfl
    have hnd : a.data.n = 0 := by rw [ha.nums.1, ← hA]; rfl
    simp [go_sem, Go.Eng.Ch.contJ_app qa, qh, hm, hk, hnd]
    refine gen_call ?_
    intro Wb hWb
    have hq : Wb.heap[ba]? = some (.cells a.cells 39 (0, 0)) := by rw [hWb, heap_alloc, if_neg (by have := (Array.getElem?_eq_some_iff.1 qh).1; omega)]; exact qh
    have hc : Wb.heap[W3.heap.size]? = some (.cells #[.slice none 0 0] 135 (0, 0)) := by rw [hWb, heap_alloc, if_pos rfl]
    have hsz : Wb.heap.size = W3.heap.size + 1 := by rw [hWb]; simp
    have hub : Upd noB w Wb := by rw [hWb]; exact hu.alloc _
    have hne : ba ≠ W3.heap.size := by have := (Array.getElem?_eq_some_iff.1 qh).1; omega
    have g : GQ w Wb Wb ba W3.heap.size _ [] := ⟨⟨Upd.refl _ _, ⟨by omega, rfl⟩, none, 0, 0, hc, nil_own _ _⟩, hub, hq, hne, hu.size⟩
    clear hq hc hsz hub hWb
    generalize W3.heap.size = bw at g ⊢
    have qa := g.qa
    refine CallP.mono (g.n (k := 4) (by decide) (by decide) (by decide) (by simp [leB_len]; try omega)) ?_
    clear qa g
    rintro v W4 g
    have qa := g.qa
    have hput : sayFz.put A = .ok (leB (0 : Int).toNat 4) := by rw [sayFz.put_ok hA rfl]; exact zero4_put
    obtain ⟨p, n, c, hc, own⟩ := g.I.cell
    simp [go_sem, hc]
    rw [hput]
    refine ⟨g.all, _, rfl, ?_⟩
    simp only [List.append_assoc, List.nil_append] at own
    exact own_base own (by have := g.u.size; omega)
set_option maxHeartbeats 2000000 in
theorem filePutSay9 {a : SayV} {A : SayS} (ha : SayAt w a A) (ok : a.ok) : CallP Tryz.prog 86 #[.int .u16 9, .agg a.cells] w (fun r w' => Upd noB w w' ∧ PutR w' w.heap.size r (sayF9.put A)) := by
  have hS : SameNS (SayV.mk zeroS.dialect zeroS.size_ zeroS.challenge zeroS.level zeroS.durable zeroS.made zeroS.file zeroS.kind zeroS.data a.n zeroS.entries zeroS.more zeroS.gone) a ↔ sayF9.mkS (sayF9.unS A) = A := same_iffS ha (by unfold sayF9; simp only [ha.f]; rfl) (Or.inl ⟨rfl, rfl⟩) (Or.inl ⟨rfl, rfl⟩)
  refine call_den (args := [_, _]) Tryz.func86 rfl rfl (by simp [Tryz.ntmps86]) ?_
  simp [go_sem]
  refine gen_draw ?_
  intro W hW
  have hu : Upd noB w W := by rw [hW]; exact (by repeat (first | exact Upd.refl _ _ | refine Upd.alloc ?_ _ | refine Upd.drew ?_ | refine Upd.drewN ?_ _ | refine Upd.setB ?_ _ _ (fun h => absurd h (by omega))))
  have qa : SayS0 w.heap.size a W := by unfold SayS0; rw [hW, heap_alloc, if_pos rfl]
  clear hW
  generalize hba : w.heap.size = ba at qa ⊢
  refine Go.Eng.Ch.draw_script [.pure 0, .one 1, .one 2, .pure 3, .pure 4, .chain [5, 7] [6], .one 8, .one 9, .one 10, .pure 11, .pure 12, .one 13, .one 14, .one 15, .pure 16, .pure 17, .one 18, .one 19, .one 20, .pure 21] (by kernel_rfl) (by kernel_rfl) (by kernel_rfl) ?_
  simp [go_sem]
  replace hu := hu.drew
  have qa' : SayS0 ba a W.drew := qa
  refine CallP.mono (fileKnown_any _ _) ?_
  rintro v W1 ⟨rfl, hW1⟩
  replace hu : Upd noB w W1 := by rw [hW1]; exact hu
  replace qa : SayS0 ba a W1 := by rw [hW1]; exact qa'
  clear hW1 qa'
  simp [go_sem, known9]
  haveI : Nonempty { W : World // SayS0 ba a W } := ⟨⟨W1, qa⟩⟩
  have ql := Q_load_fix (P := Tryz.prog) (W := fun i : { W : World // SayS0 ba a W } => i.1) (fun i => i.2.load)
  refine Go.Eng.Ch.opsPh_chain _ _ (SayS0 ba a) qa ?_
  simp [go_sem, ql]
  refine CallP.mono (fileSaid9 a _) ?_
  rintro v W2 ⟨rfl, u2⟩
  replace hu := hu.trans u2
  replace qa : SayS0 ba a W2 := u2.get qa (fun h => h)
  simp [go_sem, Go.Eng.Ch.contJ_app qa]
  refine CallP.mono fileSameSay_any ?_
  rintro v W3 ⟨x, rfl, hx, u3⟩
  replace hx := hx.trans hS
  replace hu := hu.trans u3
  replace qa : SayS0 ba a W3 := u3.get qa (fun h => h)
  have qh : W3.heap[ba]? = some (.cells a.cells 39 (0, 0)) := qa
  clear u2 u3
  cases x with
  | false =>
    have hA : ¬ sayF9.mkS (sayF9.unS A) = A := fun h => by have := hx.2 h; cases this
    simp [go_sem, Go.Eng.Ch.contJ_app qa]
    rw [sayF9.put_no hA]
    exact ⟨hu, rfl⟩
  | true =>
    have hA := hx.1 rfl
    have hm : a.made = 0 := show a.bare.made = 0 by rw [← ha.f, ← hA]; rfl
    have hk : a.kind = 0 := show a.bare.kind = 0 by rw [← ha.f, ← hA]; rfl
    have hnd : a.data.n = 0 := by rw [ha.nums.1, ← hA]; rfl
    have cn : IntKind.u64.wrap a.n = a.n := wrap64 ok.n.1 (by have := ok.n; omega)
    simp [go_sem, Go.Eng.Ch.contJ_app qa, qh, hm, hk, hnd]
    refine gen_load ?_
    intro Wb hWb
    have hq : Wb.heap[ba]? = some (.cells a.cells 39 (0, 0)) := by rw [hWb, heap_alloc, if_neg (by have := (Array.getElem?_eq_some_iff.1 qh).1; omega)]; exact qh
    have hc : Wb.heap[W3.heap.size]? = some (.cells #[.slice none 0 0] 135 (0, 0)) := by rw [hWb, heap_alloc, if_pos rfl]
    have hsz : Wb.heap.size = W3.heap.size + 1 := by rw [hWb]; simp
    have hub : Upd noB w Wb := by rw [hWb]; exact hu.alloc _
    have hne : ba ≠ W3.heap.size := by have := (Array.getElem?_eq_some_iff.1 qh).1; omega
    have g : GQ w Wb Wb ba W3.heap.size _ [] := ⟨⟨Upd.refl _ _, ⟨by omega, rfl⟩, none, 0, 0, hc, nil_own _ _⟩, hub, hq, hne, hu.size⟩
    clear hq hc hsz hub hWb
    generalize W3.heap.size = bw at g ⊢
    have qa := g.qa
    simp [go_sem, qa, cn]
    refine CallP.mono (g.n (k := 4) (by decide) ok.n.1 ok.n.2 (by simp [leB_len]; try omega)) ?_
    clear qa g
    rintro v W4 g
    have qa := g.qa
    have hput : sayF9.put A = .ok (leB a.n.toNat 4) := by
      rw [sayF9.put_ok hA rfl]
      have e : sayF9.unS A = a.n := by unfold sayF9; simp only [ha.f]; rfl
      rw [e]
      exact num_put ok.n.1 ok.n.2
    obtain ⟨p, n, c, hc, own⟩ := g.I.cell
    simp [go_sem, hc]
    rw [hput]
    refine ⟨g.all, _, rfl, ?_⟩
    simp only [List.append_assoc, List.nil_append] at own
    exact own_base own (by have := g.u.size; omega)
set_option maxHeartbeats 2000000 in
theorem filePutSay8 {a : SayV} {A : SayS} (ha : SayAt w a A) (ok : a.ok) : CallP Tryz.prog 86 #[.int .u16 8, .agg a.cells] w (fun r w' => Upd noB w w' ∧ PutR w' w.heap.size r (sayF8.put A)) := by
  have hS : SameNS (SayV.mk zeroS.dialect zeroS.size_ zeroS.challenge zeroS.level zeroS.durable zeroS.made zeroS.file zeroS.kind a.data zeroS.n zeroS.entries zeroS.more zeroS.gone) a ↔ sayF8.mkS (sayF8.unS A) = A := same_iffS ha (by unfold sayF8; simp only [ha.f]; rfl) (Or.inr ⟨rfl, rfl⟩) (Or.inl ⟨rfl, rfl⟩)
  refine call_den (args := [_, _]) Tryz.func86 rfl rfl (by simp [Tryz.ntmps86]) ?_
  simp [go_sem]
  refine gen_draw ?_
  intro W hW
  have hu : Upd noB w W := by rw [hW]; exact (by repeat (first | exact Upd.refl _ _ | refine Upd.alloc ?_ _ | refine Upd.drew ?_ | refine Upd.drewN ?_ _ | refine Upd.setB ?_ _ _ (fun h => absurd h (by omega))))
  have qa : SayS0 w.heap.size a W := by unfold SayS0; rw [hW, heap_alloc, if_pos rfl]
  clear hW
  generalize hba : w.heap.size = ba at qa ⊢
  refine Go.Eng.Ch.draw_script [.pure 0, .one 1, .one 2, .pure 3, .pure 4, .chain [5, 7] [6], .one 8, .one 9, .one 10, .pure 11, .pure 12, .one 13, .one 14, .one 15, .pure 16, .pure 17, .one 18, .one 19, .one 20, .pure 21] (by kernel_rfl) (by kernel_rfl) (by kernel_rfl) ?_
  simp [go_sem]
  replace hu := hu.drew
  have qa' : SayS0 ba a W.drew := qa
  refine CallP.mono (fileKnown_any _ _) ?_
  rintro v W1 ⟨rfl, hW1⟩
  replace hu : Upd noB w W1 := by rw [hW1]; exact hu
  replace qa : SayS0 ba a W1 := by rw [hW1]; exact qa'
  clear hW1 qa'
  simp [go_sem, known9]
  haveI : Nonempty { W : World // SayS0 ba a W } := ⟨⟨W1, qa⟩⟩
  have ql := Q_load_fix (P := Tryz.prog) (W := fun i : { W : World // SayS0 ba a W } => i.1) (fun i => i.2.load)
  refine Go.Eng.Ch.opsPh_chain _ _ (SayS0 ba a) qa ?_
  simp [go_sem, ql]
  refine CallP.mono (fileSaid8 a _) ?_
  rintro v W2 ⟨rfl, u2⟩
  replace hu := hu.trans u2
  replace qa : SayS0 ba a W2 := u2.get qa (fun h => h)
  simp [go_sem, Go.Eng.Ch.contJ_app qa]
  refine CallP.mono fileSameSay_any ?_
  rintro v W3 ⟨x, rfl, hx, u3⟩
  replace hx := hx.trans hS
  replace hu := hu.trans u3
  replace qa : SayS0 ba a W3 := u3.get qa (fun h => h)
  have qh : W3.heap[ba]? = some (.cells a.cells 39 (0, 0)) := qa
  clear u2 u3
  cases x with
  | false =>
    have hA : ¬ sayF8.mkS (sayF8.unS A) = A := fun h => by have := hx.2 h; cases this
    simp [go_sem, Go.Eng.Ch.contJ_app qa]
    rw [sayF8.put_no hA]
    exact ⟨hu, rfl⟩
  | true =>
    have hA := hx.1 rfl
    have hm : a.made = 0 := show a.bare.made = 0 by rw [← ha.f, ← hA]; rfl
    have hk : a.kind = 0 := show a.bare.kind = 0 by rw [← ha.f, ← hA]; rfl
    have hnd : a.data.n = A.dat.length := ha.nums.1
    by_cases hlim : 32768 < A.dat.length
    · have hlim' : 32768 < (a.data.n : Int) := by omega
      have hlim2 : 32768 < a.data.n := by omega
      have hpre : sayF8.pre A = 3 := if_pos hlim
      simp [go_sem, Go.Eng.Ch.contJ_app qa, qh, hm, hk, hlim', hlim2]
      rw [sayF8.put_pre hA (by rw [hpre]; decide), hpre]
      exact ⟨hu, rfl⟩
    · have hlim' : ¬ 32768 < (a.data.n : Int) := by omega
      have hlim2 : ¬ 32768 < a.data.n := by omega
      have cn : IntKind.u64.wrap (a.data.n : Int) = a.data.n := wrap64 (by omega) (by omega)
      simp [go_sem, Go.Eng.Ch.contJ_app qa, qh, hm, hk, hlim', hlim2]
      refine gen_load ?_
      intro Wb hWb
      have hq : Wb.heap[ba]? = some (.cells a.cells 39 (0, 0)) := by rw [hWb, heap_alloc, if_neg (by have := (Array.getElem?_eq_some_iff.1 qh).1; omega)]; exact qh
      have hc : Wb.heap[W3.heap.size]? = some (.cells #[.slice none 0 0] 135 (0, 0)) := by rw [hWb, heap_alloc, if_pos rfl]
      have hsz : Wb.heap.size = W3.heap.size + 1 := by rw [hWb]; simp
      have hub : Upd noB w Wb := by rw [hWb]; exact hu.alloc _
      have hne : ba ≠ W3.heap.size := by have := (Array.getElem?_eq_some_iff.1 qh).1; omega
      have g : GQ w Wb Wb ba W3.heap.size _ [] := ⟨⟨Upd.refl _ _, ⟨by omega, rfl⟩, none, 0, 0, hc, nil_own _ _⟩, hub, hq, hne, hu.size⟩
      clear hq hc hsz hub hWb
      generalize W3.heap.size = bw at g ⊢
      have qa := g.qa
      simp [go_sem, qa, cn]
      refine CallP.mono (g.n (k := 4) (by decide) (show (0 : Int) ≤ (a.data.n : Int) by omega) (show (a.data.n : Int) < 256 ^ 4 by omega) (by simp [leB_len]; try omega)) ?_
      clear qa g
      rintro v W4 g
      have qa := g.qa
      simp [go_sem]
      have hd := (ha.keep g.all.drew).dat
      obtain ⟨p, n, c, hc, own⟩ := g.I.cell
      have l1 : ∀ _ : Unit, (Instr.loadAt 31 (.pointer (some ⟨bw, 0, none⟩))).run Tryz.prog W4.drew = .ok (.slice p n c) W4.drew := fun _ => by simp [go_sem, hc]
      have l2 : ∀ _ : Unit, (Instr.loadAt 31 (.pointer (some ⟨ba, 15, none⟩))).run Tryz.prog W4.drew = .ok (.slice a.data.p a.data.n a.data.cap) W4.drew := fun _ => by simp [go_sem, qa]
      have own' : OwnB W4.drew Wb.heap.size (.slice p n c) _ := own_keep0 own ((Upd.refl noB W4).drew)
      have hsz : Wb.heap.size ≤ W4.drew.heap.size := g.I.u.size
      obtain ⟨p7, n7, c7, W7, hrun7, own7, u7⟩ := OwnB.appendN own' hd 31 (by simp [leB_len]; omega) hsz
      refine draw_script [.pure 0, .pure 1, .pure 5, .still [2, 3, 4, 6], .one 7, .one 8, .pure 9, .one 10] (by kernel_rfl) (by kernel_rfl) (by kernel_rfl) ?_
      simp [go_sem, Q_load_fix (W := fun _ : Unit => W4.drew) l1, Q_load_fix (W := fun _ : Unit => W4.drew) l2, K_append_ok _ _ _ _ hrun7]
      have hlt := g.I.lt
      have hc7 := u7.get (show W4.drew.heap[bw]? = _ from hc) (by omega)
      simp [go_sem, hc7]
      have gz := (g.keep0 ((Upd.refl noB W4).drew)).wrote u7 own7
      refine ⟨gz.all, ?_⟩
      have hput : sayF8.put A = .ok (leB a.data.n 4 ++ A.dat) := by
        rw [sayF8.put_ok hA (if_neg hlim)]
        show dataC.put ((A.dat.length : Int), A.dat) = _
        rw [hnd]
        exact data_put hlim
      rw [hput]
      have en : ((a.data.n : Int)).toNat = a.data.n := by omega
      obtain ⟨pz, nz, cz, hcz, ownz⟩ := gz.I.cell
      have ez := hcz.symm.trans (show _ = some (.cells #[.slice p7 n7 c7] 135 (0, 0)) by rw [heap_setB, if_pos rfl, hc7]; rfl)
      rw [en] at ownz
      simp only [List.append_assoc, List.nil_append, List.cons_append] at ownz ⊢
      cases ez
      exact ⟨_, rfl, own_base ownz (by have := g.u.size; omega)⟩
set_option maxHeartbeats 2000000 in
theorem filePutSay5 {a : SayV} {A : SayS} (ha : SayAt w a A) (ok : a.ok) : CallP Tryz.prog 86 #[.int .u16 5, .agg a.cells] w (fun r w' => Upd noB w w' ∧ PutR w' w.heap.size r (sayF5.put A)) := by
  have hS : SameNS (SayV.mk zeroS.dialect a.size_ zeroS.challenge a.level a.durable a.made a.file a.kind zeroS.data zeroS.n zeroS.entries zeroS.more zeroS.gone) a ↔ sayF5.mkS (sayF5.unS A) = A := same_iffS ha (by unfold sayF5; simp only [ha.f]; rfl) (Or.inl ⟨rfl, rfl⟩) (Or.inl ⟨rfl, rfl⟩)
  refine call_den (args := [_, _]) Tryz.func86 rfl rfl (by simp [Tryz.ntmps86]) ?_
  simp [go_sem]
  refine gen_draw ?_
  intro W hW
  have hu : Upd noB w W := by rw [hW]; exact (by repeat (first | exact Upd.refl _ _ | refine Upd.alloc ?_ _ | refine Upd.drew ?_ | refine Upd.drewN ?_ _ | refine Upd.setB ?_ _ _ (fun h => absurd h (by omega))))
  have qa : SayS0 w.heap.size a W := by unfold SayS0; rw [hW, heap_alloc, if_pos rfl]
  clear hW
  generalize hba : w.heap.size = ba at qa ⊢
  refine Go.Eng.Ch.draw_script [.pure 0, .one 1, .one 2, .pure 3, .pure 4, .chain [5, 7] [6], .one 8, .one 9, .one 10, .pure 11, .pure 12, .one 13, .one 14, .one 15, .pure 16, .pure 17, .one 18, .one 19, .one 20, .pure 21] (by kernel_rfl) (by kernel_rfl) (by kernel_rfl) ?_
  simp [go_sem]
  replace hu := hu.drew
  have qa' : SayS0 ba a W.drew := qa
  refine CallP.mono (fileKnown_any _ _) ?_
  rintro v W1 ⟨rfl, hW1⟩
  replace hu : Upd noB w W1 := by rw [hW1]; exact hu
  replace qa : SayS0 ba a W1 := by rw [hW1]; exact qa'
  clear hW1 qa'
  simp [go_sem, known9]
  haveI : Nonempty { W : World // SayS0 ba a W } := ⟨⟨W1, qa⟩⟩
  have ql := Q_load_fix (P := Tryz.prog) (W := fun i : { W : World // SayS0 ba a W } => i.1) (fun i => i.2.load)
  refine Go.Eng.Ch.opsPh_chain _ _ (SayS0 ba a) qa ?_
  simp [go_sem, ql]
  refine CallP.mono (fileSaid5 a _) ?_
  rintro v W2 ⟨rfl, u2⟩
  replace hu := hu.trans u2
  replace qa : SayS0 ba a W2 := u2.get qa (fun h => h)
  simp [go_sem, Go.Eng.Ch.contJ_app qa]
  refine CallP.mono fileSameSay_any ?_
  rintro v W3 ⟨x, rfl, hx, u3⟩
  replace hx := hx.trans hS
  replace hu := hu.trans u3
  replace qa : SayS0 ba a W3 := u3.get qa (fun h => h)
  have qh : W3.heap[ba]? = some (.cells a.cells 39 (0, 0)) := qa
  clear u2 u3
  cases x with
  | false =>
    have hA : ¬ sayF5.mkS (sayF5.unS A) = A := fun h => by have := hx.2 h; cases this
    simp [go_sem, Go.Eng.Ch.contJ_app qa]
    rw [sayF5.put_no hA]
    exact ⟨hu, rfl⟩
  | true =>
    have hA := hx.1 rfl
    have hnd : a.data.n = 0 := by rw [ha.nums.1, ← hA]; rfl
    have e : sayF5.unS A = (a.level, a.durable, a.made, a.file, a.size_, a.kind, ()) := by unfold sayF5; simp only [ha.f]; rfl
    by_cases hm : a.made ≤ 2
    · have hm' : ¬ 2 < a.made := by omega
      by_cases hk : a.kind ≤ 2
      · have hk' : ¬ 2 < a.kind := by omega
        have cl : IntKind.u64.wrap a.level = a.level := wrap64 ok.level.1 (by have := ok.level; omega)
        have cd : IntKind.u64.wrap a.durable = a.durable := wrap64 ok.durable.1 (by have := ok.durable; omega)
        have cm : IntKind.u64.wrap a.made = a.made := wrap64 ok.made.1 (by have := ok.made; omega)
        have ck : IntKind.u64.wrap a.kind = a.kind := wrap64 ok.kind.1 (by have := ok.kind; omega)
        simp [go_sem, Go.Eng.Ch.contJ_app qa, qh, hm, hm', hk, hk', hnd]
        refine gen_load ?_
        intro Wb hWb
        have hq : Wb.heap[ba]? = some (.cells a.cells 39 (0, 0)) := by rw [hWb, heap_alloc, if_neg (by have := (Array.getElem?_eq_some_iff.1 qh).1; omega)]; exact qh
        have hc : Wb.heap[W3.heap.size]? = some (.cells #[.slice none 0 0] 135 (0, 0)) := by rw [hWb, heap_alloc, if_pos rfl]
        have hsz : Wb.heap.size = W3.heap.size + 1 := by rw [hWb]; simp
        have hub : Upd noB w Wb := by rw [hWb]; exact hu.alloc _
        have hne : ba ≠ W3.heap.size := by have := (Array.getElem?_eq_some_iff.1 qh).1; omega
        have g : GQ w Wb Wb ba W3.heap.size _ [] := ⟨⟨Upd.refl _ _, ⟨by omega, rfl⟩, none, 0, 0, hc, nil_own _ _⟩, hub, hq, hne, hu.size⟩
        clear hq hc hsz hub hWb
        generalize W3.heap.size = bw at g ⊢
        have qa := g.qa
        simp [go_sem, qa, cl]
        refine CallP.mono (g.n (k := 1) (by decide) ok.level.1 ok.level.2 (by simp [leB_len]; try omega)) ?_
        clear qa g
        rintro v W4 g
        have qa := g.qa
        simp [go_sem, qa, cd]
        refine CallP.mono (g.n (k := 1) (by decide) ok.durable.1 ok.durable.2 (by simp [leB_len]; try omega)) ?_
        clear qa g
        rintro v W4 g
        have qa := g.qa
        simp [go_sem, qa, cm]
        refine CallP.mono (g.n (k := 2) (by decide) ok.made.1 ok.made.2 (by simp [leB_len]; try omega)) ?_
        clear qa g
        rintro v W4 g
        have qa := g.qa
        simp [go_sem, qa]
        refine CallP.mono (g.n (k := 8) (by decide) ok.file.1 ok.file.2 (by simp [leB_len]; try omega)) ?_
        clear qa g
        rintro v W4 g
        have qa := g.qa
        simp [go_sem, qa]
        refine CallP.mono (g.n (k := 8) (by decide) ok.size_.1 ok.size_.2 (by simp [leB_len]; try omega)) ?_
        clear qa g
        rintro v W4 g
        have qa := g.qa
        simp [go_sem, qa, ck]
        refine CallP.mono (g.n (k := 4) (by decide) ok.kind.1 (by have := ok.kind; omega) (by simp [leB_len]; try omega)) ?_
        clear qa g
        rintro v W4 g
        have qa := g.qa
        have hput : sayF5.put A = .ok (leB a.level.toNat 1 ++ (leB a.durable.toNat 1 ++ (leB a.made.toNat 2 ++ (leB a.file.toNat 8 ++ (leB a.size_.toNat 8 ++ leB a.kind.toNat 4))))) := by
          rw [sayF5.put_ok hA rfl, e, leB_4 _ (by have := ok.kind; omega)]
          exact seq_put (D := fun _ => _) (num_put ok.level.1 ok.level.2) (seq_put (D := fun _ => _) (num_put ok.durable.1 ok.durable.2) (seq_put (D := fun _ => _) (most_put ok.made.1 ok.made.2 hm) (seq_put (D := fun _ => _) (num_put ok.file.1 ok.file.2) (seq_put (D := fun _ => _) (num_put ok.size_.1 ok.size_.2) (seq_put (D := fun _ => _) (most_put ok.kind.1 (by have := ok.kind; omega) hk) zero2_put)))))
        obtain ⟨p, n, c, hc, own⟩ := g.I.cell
        simp [go_sem, hc]
        rw [hput]
        refine ⟨g.all, _, rfl, ?_⟩
        simp only [List.append_assoc, List.nil_append] at own
        exact own_base own (by have := g.u.size; omega)
      · have hk' : 2 < a.kind := by omega
        simp [go_sem, Go.Eng.Ch.contJ_app qa, qh, hm, hm', hk, hk', hnd]
        rw [sayF5.put_ok hA rfl, e]
        have : sayF5.C.put (a.level, a.durable, a.made, a.file, a.size_, a.kind, ()) = .error 2 := seq_putE (num_put ok.level.1 ok.level.2) (seq_putE (num_put ok.durable.1 ok.durable.2) (seq_putE (most_put ok.made.1 ok.made.2 hm) (seq_putE (num_put ok.file.1 ok.file.2) (seq_putE (num_put ok.size_.1 ok.size_.2) (seq_putF (most_put_no hk))))))
        rw [this]
        exact ⟨hu, rfl⟩
    · have hm' : 2 < a.made := by omega
      simp [go_sem, Go.Eng.Ch.contJ_app qa, qh, hm, hm', hnd]
      rw [sayF5.put_ok hA rfl, e]
      have : sayF5.C.put (a.level, a.durable, a.made, a.file, a.size_, a.kind, ()) = .error 2 := seq_putE (num_put ok.level.1 ok.level.2) (seq_putE (num_put ok.durable.1 ok.durable.2) (seq_putF (most_put_no hm)))
      rw [this]
      exact ⟨hu, rfl⟩
end Go.Proofs.YtinfdomlpbikaaaGreatDoor
namespace Go.Proofs.YtinfdomlpbikaaaGreatDoor
open Go.Eng Go.Lib
set_option linter.unusedSimpArgs false
set_option linter.unusedVariables false
set_option maxRecDepth 100000
variable {w w0 : World}
end Go.Proofs.YtinfdomlpbikaaaGreatDoor
namespace Go.Proofs.YtinfdomlpbikaaaGreatDoor
open Go.Eng Go.Lib
set_option linter.unusedSimpArgs false
set_option linter.unusedVariables false
set_option maxRecDepth 100000
variable {w w0 : World}
theorem slStr : SlT Tryz.prog 117 9 1 16 :=
  SlT.mk' Tryz.underlying117 (i := Tryz.t9) (z := .string ⟨#[]⟩) (by kernel_rfl) (by kernel_rfl) (by kernel_rfl) (by kernel_rfl) rfl (by decide)
theorem str_row {w : World} (L : List ByteArray) : RowAt (w.alloc (.cells (L.map strV).toArray 9)) 1 (.slice (some ⟨w.heap.size, 0, none⟩) L.length L.length) L.length (L.map strV) :=
  ⟨by simp, Or.inr ⟨w.heap.size, 0, L.length, _, _, _, rfl, by rw [heap_alloc, if_pos rfl], by simp, by simp [List.take_of_length_le]⟩⟩
/-! ### Set -/
def s17 (A : AskS) : AskS := if A.f.cls = 1 then { zeroAS with f := { zeroA with file := A.f.file, cls := A.f.cls, size_ := A.f.size_ } } else if A.f.cls = 2 then { zeroAS with f := { zeroA with file := A.f.file, cls := A.f.cls, on := A.f.on } } else { zeroAS with f := { zeroA with file := A.f.file, cls := A.f.cls, on := A.f.on, name := A.f.name } }
theorem ask17_bad {A : AskS} (hf : 0 ≤ A.f.file ∧ A.f.file < 18446744073709551616) (h : ¬ (1 ≤ A.f.cls ∧ A.f.cls ≤ 3)) : askF17.put A = .error 2 := by
  by_cases hm : askF17.mkS (askF17.unS A) = A
  · rw [askF17.put_ok hm rfl]
    refine seq_putE (num_put hf.1 hf.2) (seq_putF ?_)
    show (if decide (1 ≤ A.f.cls ∧ A.f.cls ≤ 3) = true then (numC 2).put A.f.cls else .error 2) = _
    rw [if_neg (by simpa using h)]
  · exact askF17.put_no hm
def v17 (c : Int) (v : Int × Bool × ByteArray) : Bool := if c = 1 then decide (v.2.1 = false ∧ v.2.2 = ByteArray.empty) else if c = 2 then decide (v.1 = 0 ∧ v.2.2 = ByteArray.empty) else decide (v.1 = 0)
theorem cls_no {c : Int} {v : Int × Bool × ByteArray} (h : v17 c v = false) : (clsC c).put v = .error 2 := by
  unfold v17 at h
  unfold clsC
  by_cases h1 : c = 1
  · rw [if_pos h1] at h ⊢
    simp only [subC]
    rw [h]; rfl
  · rw [if_neg h1] at h ⊢
    by_cases h2 : c = 2
    · rw [if_pos h2] at h ⊢
      simp only [subC]
      rw [h]; rfl
    · rw [if_neg h2] at h ⊢
      simp only [subC]
      rw [h]; rfl
theorem s17_iff {A : AskS} : s17 A = A ↔ askF17.mkS (askF17.unS A) = A ∧ v17 A.f.cls (A.f.size_, A.f.on, A.f.name) = true := by
  obtain ⟨f, dia, dat, lok⟩ := A
  obtain ⟨dialects, guid, proof, user, share, access, sharing, way, options, level, durable, file, name, at_, n, data, locks, most, pattern, after, cls, size_, on⟩ := f
  unfold s17 v17 askF17 zeroAS zeroA
  simp only
  by_cases h1 : cls = 1
  · simp only [h1, if_true]
    simp only [AskS.mk.injEq, AskV.mk.injEq, decide_eq_true_eq]
    constructor
    · rintro ⟨⟨a1, a2, a3, a4, a5, a6, a7, a8, a9, a10, a11, a12, a13, a14, a15, a16, a17, a18, a19, a20, a21, a22, a23⟩, b1, b2, b3⟩
      exact ⟨⟨⟨a1, a2, a3, a4, a5, a6, a7, a8, a9, a10, a11, a12, (by trivial), a14, a15, a16, a17, a18, a19, a20, a21, a22, (by trivial)⟩, b1, b2, b3⟩, a23.symm, a13.symm⟩
    · rintro ⟨⟨⟨a1, a2, a3, a4, a5, a6, a7, a8, a9, a10, a11, a12, a13, a14, a15, a16, a17, a18, a19, a20, a21, a22, a23⟩, b1, b2, b3⟩, c1, c2⟩
      exact ⟨⟨a1, a2, a3, a4, a5, a6, a7, a8, a9, a10, a11, a12, c2.symm, a14, a15, a16, a17, a18, a19, a20, a21, a22, c1.symm⟩, b1, b2, b3⟩
  · by_cases h2 : cls = 2
    · have h21 : ¬ (2 : Int) = 1 := by decide
      simp only [h2, h21, if_false, if_true]
      simp only [AskS.mk.injEq, AskV.mk.injEq, decide_eq_true_eq]
      constructor
      · rintro ⟨⟨a1, a2, a3, a4, a5, a6, a7, a8, a9, a10, a11, a12, a13, a14, a15, a16, a17, a18, a19, a20, a21, a22, a23⟩, b1, b2, b3⟩
        exact ⟨⟨⟨a1, a2, a3, a4, a5, a6, a7, a8, a9, a10, a11, a12, (by trivial), a14, a15, a16, a17, a18, a19, a20, a21, (by trivial), (by trivial)⟩, b1, b2, b3⟩, a22.symm, a13.symm⟩
      · rintro ⟨⟨⟨a1, a2, a3, a4, a5, a6, a7, a8, a9, a10, a11, a12, a13, a14, a15, a16, a17, a18, a19, a20, a21, a22, a23⟩, b1, b2, b3⟩, c1, c2⟩
        exact ⟨⟨a1, a2, a3, a4, a5, a6, a7, a8, a9, a10, a11, a12, c2.symm, a14, a15, a16, a17, a18, a19, a20, a21, c1.symm, (by trivial)⟩, b1, b2, b3⟩
    · simp only [h1, h2, if_false]
      simp only [AskS.mk.injEq, AskV.mk.injEq, decide_eq_true_eq]
      constructor
      · rintro ⟨⟨a1, a2, a3, a4, a5, a6, a7, a8, a9, a10, a11, a12, a13, a14, a15, a16, a17, a18, a19, a20, a21, a22, a23⟩, b1, b2, b3⟩
        exact ⟨⟨⟨a1, a2, a3, a4, a5, a6, a7, a8, a9, a10, a11, a12, (by trivial), a14, a15, a16, a17, a18, a19, a20, a21, (by trivial), (by trivial)⟩, b1, b2, b3⟩, a22.symm⟩
      · rintro ⟨⟨⟨a1, a2, a3, a4, a5, a6, a7, a8, a9, a10, a11, a12, a13, a14, a15, a16, a17, a18, a19, a20, a21, a22, a23⟩, b1, b2, b3⟩, c1⟩
        exact ⟨⟨a1, a2, a3, a4, a5, a6, a7, a8, a9, a10, a11, a12, (by trivial), a14, a15, a16, a17, a18, a19, a20, a21, c1.symm, (by trivial)⟩, b1, b2, b3⟩
theorem ask17_no {A : AskS} (hf : 0 ≤ A.f.file ∧ A.f.file < 18446744073709551616) (hc : 0 ≤ A.f.cls ∧ A.f.cls < 65536) (hr : 1 ≤ A.f.cls ∧ A.f.cls ≤ 3) (h : ¬ s17 A = A) : askF17.put A = .error 2 := by
  by_cases hm : askF17.mkS (askF17.unS A) = A
  · have hv : v17 A.f.cls (A.f.size_, A.f.on, A.f.name) = false := by
      rw [Bool.eq_false_iff]
      exact fun h' => h (s17_iff.2 ⟨hm, h'⟩)
    rw [askF17.put_ok hm rfl]
    have hcp : (chkC (numC 2) (fun c => decide (1 ≤ c ∧ c ≤ 3)) 5).put A.f.cls = .ok (leB A.f.cls.toNat 2) := by
      show (if decide (1 ≤ A.f.cls ∧ A.f.cls ≤ 3) = true then (numC 2).put A.f.cls else .error 2) = _
      rw [if_pos (by simpa using hr), num_put hc.1 hc.2]
    have h2 : (seqC (chkC (numC 2) (fun c => decide (1 ≤ c ∧ c ≤ 3)) 5) clsC).put (A.f.cls, (A.f.size_, A.f.on, A.f.name)) = .error 2 := by
      simp only [seqC, hcp, cls_no hv]
    exact seq_putE (D := seqC (chkC (numC 2) (fun c => decide (1 ≤ c ∧ c ≤ 3)) 5) clsC) (num_put hf.1 hf.2) h2
  · exact askF17.put_no hm
theorem ask17_yes {A : AskS} {b : Except Int (List UInt8)} (hf : 0 ≤ A.f.file ∧ A.f.file < 18446744073709551616) (hc : 0 ≤ A.f.cls ∧ A.f.cls < 65536) (hr : 1 ≤ A.f.cls ∧ A.f.cls ≤ 3) (h : s17 A = A) (hb : (clsC A.f.cls).put (A.f.size_, A.f.on, A.f.name) = b) : askF17.put A = match b with | .ok b => .ok (leB A.f.file.toNat 8 ++ (leB A.f.cls.toNat 2 ++ b)) | .error e => .error e := by
  obtain ⟨hm, hv⟩ := s17_iff.1 h
  rw [askF17.put_ok hm rfl]
  have hcp : (chkC (numC 2) (fun c => decide (1 ≤ c ∧ c ≤ 3)) 5).put A.f.cls = .ok (leB A.f.cls.toNat 2) := by
    show (if decide (1 ≤ A.f.cls ∧ A.f.cls ≤ 3) = true then (numC 2).put A.f.cls else .error 2) = _
    rw [if_pos (by simpa using hr), num_put hc.1 hc.2]
  have hfp := num_put hf.1 hf.2 (k := 8)
  cases b with
  | ok b =>
    have h2 : (seqC (chkC (numC 2) (fun c => decide (1 ≤ c ∧ c ≤ 3)) 5) clsC).put (A.f.cls, (A.f.size_, A.f.on, A.f.name)) = .ok (leB A.f.cls.toNat 2 ++ b) := by
      simp only [seqC, hcp, hb]
    exact seq_put (D := fun _ => seqC (chkC (numC 2) (fun c => decide (1 ≤ c ∧ c ≤ 3)) 5) clsC) hfp h2
  | error e =>
    have h2 : (seqC (chkC (numC 2) (fun c => decide (1 ≤ c ∧ c ≤ 3)) 5) clsC).put (A.f.cls, (A.f.size_, A.f.on, A.f.name)) = .error e := by
      simp only [seqC, hcp, hb]
    exact seq_putE (D := seqC (chkC (numC 2) (fun c => decide (1 ≤ c ∧ c ≤ 3)) 5) clsC) hfp h2
end Go.Proofs.YtinfdomlpbikaaaGreatDoor
namespace Go.Proofs.YtinfdomlpbikaaaGreatDoor
open Go.Eng Go.Lib
set_option linter.unusedSimpArgs false
set_option linter.unusedVariables false
set_option maxRecDepth 100000
variable {w w0 : World}
theorem same_iffI {a X : AskV} {A S : AskS} (ha : AskAt w a A) (hf : S.f = X.bare) (hd : X.dialects = ⟨none, 0, 0⟩ ∧ S.dia = []) (ht : X.data = ⟨none, 0, 0⟩ ∧ S.dat = []) (hl : X.locks = ⟨none, 0, 0⟩ ∧ S.lok = []) : SameI X a ↔ S = A := by
  rw [← same_iff ha hf (Or.inl hd) (Or.inl ht) (Or.inl hl)]
  unfold SameI SameN
  rw [hd.1, ht.1, hl.1]
  constructor
  · rintro ⟨h1, h2⟩
    exact ⟨h1, by show 0 = _; have : 0 + 0 + 0 = a.dialects.n + a.data.n + a.locks.n := h2; omega, by show 0 = _; have : 0 + 0 + 0 = a.dialects.n + a.data.n + a.locks.n := h2; omega, by show 0 = _; have : 0 + 0 + 0 = a.dialects.n + a.data.n + a.locks.n := h2; omega⟩
  · rintro ⟨h1, h2, h3, h4⟩
    exact ⟨h1, by rw [← h2, ← h3, ← h4]⟩
structure IQ (w wb W : World) (ba bw : Nat) (o : Obj) (N : Nat) (res : Except Int (List UInt8)) : Prop where
  I : WrE wb W bw wb.heap.size 148 N res
  u : Upd noB w wb
  q : wb.heap[ba]? = some o
  ne : ba ≠ bw ∧ w.heap.size ≤ bw
section
variable {wb W : World} {ba bw : Nat} {o : Obj} {N : Nat} {res : Except Int (List UInt8)}
theorem IQ.qa (h : IQ w wb W ba bw o N res) : W.heap[ba]? = some o := h.I.u.get h.q h.ne.1
theorem IQ.all (h : IQ w wb W ba bw o N res) : Upd noB w W := h.u.trans' h.I.u (fun i hi hlt => by have := h.ne.2; omega)
theorem IQ.n {z : Int} {k : Nat} (h : IQ w wb W ba bw o N res) (hk : sizeOk k) (h0 : 0 ≤ z) (h1 : z < 256 ^ k) (hl : N ≤ 1099511627776) :
    CallP Tryz.prog 133 #[.pointer (some ⟨bw, 0, none⟩), .int .u64 z, .int .i64 k] W (fun r w' => IQ w wb w' ba bw o (N + 8) (appR (leB z.toNat k) res)) :=
  CallP.mono (infoW h.I hk h0 h1 hl) (fun _ _ I => ⟨I, h.u, h.q, h.ne⟩)
theorem IQ.truth {on : Bool} {k : Nat} (h : IQ w wb W ba bw o N res) (hk : sizeOk k) (hl : N ≤ 1099511627776) :
    CallP Tryz.prog 135 #[.pointer (some ⟨bw, 0, none⟩), .bool on, .int .i64 k] W (fun r w' => IQ w wb w' ba bw o (N + 8) (appR (leB (if on then 1 else 0) k) res)) :=
  CallP.mono (infoWB h.I hk hl) (fun _ _ I => ⟨I, h.u, h.q, h.ne⟩)
theorem IQ.texts {L : List ByteArray} {Wb : World} (h : IQ w wb W ba bw o N res) (hT : Tabs w) (hN : N ≤ 549755813888) (hL : L.length ≤ 64) (hs : ∀ s ∈ L, s.size ≤ 1099511627776) (hb : Wb = W.alloc (.cells (L.map strV).toArray 9)) :
    CallP Tryz.prog 134 #[.pointer (some ⟨bw, 0, none⟩), .slice (some ⟨W.heap.size, 0, none⟩) L.length L.length] Wb (fun r w' => IQ w wb w' ba bw o (N + 520 * L.length) (L.foldl textR res)) := by
  have u : Upd noB W Wb := by rw [hb]; exact (Upd.refl _ _).alloc _
  obtain ⟨p, n, c, e, l, hc, own, hl, hr⟩ := h.I.cell
  have hsz := h.I.u.size
  have I : WrX w wb Wb bw wb.heap.size W.heap.size 148 N res L := ⟨h.I.u.trans (u.mono (fun _ _ h => h.elim)), h.I.lt, ⟨p, n, c, e, l, u.get hc (fun h => h), own_keep0 own u, hl, hr, fun g hg => by have := (own.lt g hg).2; omega⟩, by rw [hb]; exact str_row L, ⟨by omega, by rw [hb]; simp⟩⟩
  exact CallP.mono (infoTexts hT h.u h.ne.2 I hN hL hs) (fun _ _ I => ⟨I, h.u, h.q, h.ne⟩)
theorem IQ.done (h : IQ w wb W ba bw o N res) : CallP Tryz.prog 136 #[.pointer (some ⟨bw, 0, none⟩)] W (fun r w' => Upd noB w w' ∧ PutR w' wb.heap.size r res) :=
  CallP.mono (infoDone h.I) (fun _ _ I => ⟨h.u.trans' I.1 (fun i hi hlt => by have := h.ne.2; omega), I.2⟩)
end
theorem PutR.base {w : World} {b b' : Nat} {r : Value} {x : Except Int (List UInt8)} (h : PutR w b r x) (hb : b' ≤ b) : PutR w b' r x := by
  cases x with
  | error e => exact h
  | ok m => obtain ⟨v, h1, h2⟩ := h; exact ⟨v, h1, own_base h2 hb⟩
theorem PutR.form {w : World} {b : Nat} {r : Value} {x : Except Int (List UInt8)} (h : PutR w b r x) : ∃ v e, r = .tuple #[v, .int .i64 e] := by
  cases x with
  | error e => exact ⟨_, _, h⟩
  | ok m => obtain ⟨v, h1, h2⟩ := h; exact ⟨_, _, h1⟩
set_option maxHeartbeats 2000000 in
theorem infoPutAsk12 {a : AskV} {A : AskS} (ha : AskAt w a A) (ok : a.ok) : CallP Tryz.prog 88 #[.int .u16 12, .agg a.cells] w (fun r w' => Upd noB w w' ∧ PutR w' w.heap.size r (askFz.put A)) := by
  have hS : SameI (AskV.mk zeroA.dialects zeroA.guid zeroA.proof zeroA.user zeroA.share zeroA.access zeroA.sharing zeroA.way zeroA.options zeroA.level zeroA.durable zeroA.file zeroA.name zeroA.at_ zeroA.n zeroA.data zeroA.locks zeroA.most zeroA.pattern zeroA.after zeroA.cls zeroA.size_ zeroA.on) a ↔ askFz.mkS (askFz.unS A) = A := same_iffI ha (by unfold askFz; simp only [ha.f]; rfl) ⟨rfl, rfl⟩ ⟨rfl, rfl⟩ ⟨rfl, rfl⟩
  refine call_den (args := [_, _]) Tryz.func88 rfl rfl (by simp [Tryz.ntmps88]) ?_
  simp [go_sem]
  refine gen_draw ?_
  intro W hW
  have hu : Upd noB w W := by rw [hW]; exact (by repeat (first | exact Upd.refl _ _ | refine Upd.alloc ?_ _ | refine Upd.drew ?_ | refine Upd.drewN ?_ _ | refine Upd.setB ?_ _ _ (fun h => absurd h (by omega))))
  have qa : AskS0 w.heap.size a W := by unfold AskS0; rw [hW, heap_alloc, if_pos rfl]
  clear hW
  generalize hba : w.heap.size = ba at qa ⊢
  refine Go.Eng.Ch.draw_script [.pure 0, .one 1, .one 2, .pure 3, .pure 4, .chain [5, 7] [6], .one 8, .one 9, .one 10, .pure 11, .pure 12, .one 13, .pure 14, .pure 15, .one 16, .one 17, .pure 18, .pure 19, .one 20, .one 21, .one 22, .one 23, .one 24] (by kernel_rfl) (by kernel_rfl) (by kernel_rfl) ?_
  simp [go_sem]
  replace hu := hu.drew
  have qa' : AskS0 ba a W.drew := qa
  refine CallP.mono (infoKnown_any _ _) ?_
  rintro v W1 ⟨rfl, hW1⟩
  replace hu : Upd noB w W1 := by rw [hW1]; exact hu
  replace qa : AskS0 ba a W1 := by rw [hW1]; exact qa'
  clear hW1 qa'
  simp [go_sem, known10]
  haveI : Nonempty { W : World // AskS0 ba a W } := ⟨⟨W1, qa⟩⟩
  have ql := Q_load_fix (P := Tryz.prog) (W := fun i : { W : World // AskS0 ba a W } => i.1) (fun i => i.2.load)
  refine Go.Eng.Ch.opsPh_chain _ _ (AskS0 ba a) qa ?_
  simp [go_sem, ql]
  refine CallP.mono (infoAsked12 a _) ?_
  rintro v W2 ⟨rfl, u2⟩
  replace hu := hu.trans u2
  replace qa : AskS0 ba a W2 := u2.get qa (fun h => h)
  simp [go_sem, Go.Eng.Ch.contJ_app qa]
  refine CallP.mono (infoSame_any ⟨Nat.zero_le _, Nat.zero_le _, Nat.zero_le _⟩ ha.lens) ?_
  rintro v W3 ⟨x, rfl, hx, u3⟩
  replace hu := hu.trans u3
  replace qa : AskS0 ba a W3 := u3.get qa (fun h => h)
  have qh : W3.heap[ba]? = some (.cells a.cells 34 (0, 0)) := qa
  clear u2 u3
  replace hx := hx.trans hS
  cases x with
  | false =>
    have hA : ¬ askFz.mkS (askFz.unS A) = A := fun h => by have := hx.2 h; cases this
    simp [go_sem, Go.Eng.Ch.contJ_app qa]
    rw [askFz.put_no hA]
    exact ⟨hu, rfl⟩
  | true =>
    have hA := hx.1 rfl
    simp [go_sem, Go.Eng.Ch.contJ_app qa, qh]
    refine gen_call ?_
    intro Wb hWb
    have hq : Wb.heap[ba]? = some (.cells a.cells 34 (0, 0)) := by rw [hWb, heap_alloc, if_neg (by have := (Array.getElem?_eq_some_iff.1 qh).1; omega)]; exact qh
    have hc : Wb.heap[W3.heap.size]? = some (.cells #[.slice none 0 0, .int .i64 0] 148 (0, 0)) := by rw [hWb, heap_alloc, if_pos rfl]
    have hsz : Wb.heap.size = W3.heap.size + 1 := by rw [hWb]; simp
    have hub : Upd noB w Wb := by rw [hWb]; exact hu.alloc _
    have hne : ba ≠ W3.heap.size := by have := (Array.getElem?_eq_some_iff.1 qh).1; omega
    have g : IQ w Wb Wb ba W3.heap.size _ 0 (.ok []) := ⟨⟨Upd.refl _ _, ⟨by omega, rfl⟩, none, 0, 0, 0, [], hc, nil_own _ _, Nat.le_refl _, rfl, rfl⟩, hub, hq, hne, hu.size⟩
    clear hq hc hsz hub hWb
    generalize W3.heap.size = bw at g ⊢
    have qa := g.qa
    refine CallP.mono (g.n (k := 4) (by decide) (by decide) (by decide) (by omega)) ?_
    clear qa g
    rintro v W4 g
    have qa := g.qa
    simp [go_sem]
    have hput : askFz.put A = .ok (leB (0 : Int).toNat 4) := by rw [askFz.put_ok hA rfl]; exact zero4_put
    refine CallP.mono g.done ?_
    rintro r W5 ⟨u5, hr⟩
    have hr2 := PutR.base (b' := ba) hr (by have := g.u.size; omega)
    obtain ⟨v5, e5, rfl⟩ := hr.form
    simp [go_sem]
    rw [hput]
    refine ⟨u5, ?_⟩
    simpa [appR] using hr2
set_option maxHeartbeats 2000000 in
theorem infoPutAsk16 {a : AskV} {A : AskS} (ha : AskAt w a A) (ok : a.ok) : CallP Tryz.prog 88 #[.int .u16 16, .agg a.cells] w (fun r w' => Upd noB w w' ∧ PutR w' w.heap.size r (askFf.put A)) := by
  have hS : SameI (AskV.mk zeroA.dialects zeroA.guid zeroA.proof zeroA.user zeroA.share zeroA.access zeroA.sharing zeroA.way zeroA.options zeroA.level zeroA.durable a.file zeroA.name zeroA.at_ zeroA.n zeroA.data zeroA.locks zeroA.most zeroA.pattern zeroA.after zeroA.cls zeroA.size_ zeroA.on) a ↔ askFf.mkS (askFf.unS A) = A := same_iffI ha (by unfold askFf; simp only [ha.f]; rfl) ⟨rfl, rfl⟩ ⟨rfl, rfl⟩ ⟨rfl, rfl⟩
  refine call_den (args := [_, _]) Tryz.func88 rfl rfl (by simp [Tryz.ntmps88]) ?_
  simp [go_sem]
  refine gen_draw ?_
  intro W hW
  have hu : Upd noB w W := by rw [hW]; exact (by repeat (first | exact Upd.refl _ _ | refine Upd.alloc ?_ _ | refine Upd.drew ?_ | refine Upd.drewN ?_ _ | refine Upd.setB ?_ _ _ (fun h => absurd h (by omega))))
  have qa : AskS0 w.heap.size a W := by unfold AskS0; rw [hW, heap_alloc, if_pos rfl]
  clear hW
  generalize hba : w.heap.size = ba at qa ⊢
  refine Go.Eng.Ch.draw_script [.pure 0, .one 1, .one 2, .pure 3, .pure 4, .chain [5, 7] [6], .one 8, .one 9, .one 10, .pure 11, .pure 12, .one 13, .pure 14, .pure 15, .one 16, .one 17, .pure 18, .pure 19, .one 20, .one 21, .one 22, .one 23, .one 24] (by kernel_rfl) (by kernel_rfl) (by kernel_rfl) ?_
  simp [go_sem]
  replace hu := hu.drew
  have qa' : AskS0 ba a W.drew := qa
  refine CallP.mono (infoKnown_any _ _) ?_
  rintro v W1 ⟨rfl, hW1⟩
  replace hu : Upd noB w W1 := by rw [hW1]; exact hu
  replace qa : AskS0 ba a W1 := by rw [hW1]; exact qa'
  clear hW1 qa'
  simp [go_sem, known10]
  haveI : Nonempty { W : World // AskS0 ba a W } := ⟨⟨W1, qa⟩⟩
  have ql := Q_load_fix (P := Tryz.prog) (W := fun i : { W : World // AskS0 ba a W } => i.1) (fun i => i.2.load)
  refine Go.Eng.Ch.opsPh_chain _ _ (AskS0 ba a) qa ?_
  simp [go_sem, ql]
  refine CallP.mono (infoAsked16 a _) ?_
  rintro v W2 ⟨rfl, u2⟩
  replace hu := hu.trans u2
  replace qa : AskS0 ba a W2 := u2.get qa (fun h => h)
  simp [go_sem, Go.Eng.Ch.contJ_app qa]
  refine CallP.mono (infoSame_any ⟨Nat.zero_le _, Nat.zero_le _, Nat.zero_le _⟩ ha.lens) ?_
  rintro v W3 ⟨x, rfl, hx, u3⟩
  replace hu := hu.trans u3
  replace qa : AskS0 ba a W3 := u3.get qa (fun h => h)
  have qh : W3.heap[ba]? = some (.cells a.cells 34 (0, 0)) := qa
  clear u2 u3
  replace hx := hx.trans hS
  cases x with
  | false =>
    have hA : ¬ askFf.mkS (askFf.unS A) = A := fun h => by have := hx.2 h; cases this
    simp [go_sem, Go.Eng.Ch.contJ_app qa]
    rw [askFf.put_no hA]
    exact ⟨hu, rfl⟩
  | true =>
    have hA := hx.1 rfl
    simp [go_sem, Go.Eng.Ch.contJ_app qa, qh]
    refine gen_load ?_
    intro Wb hWb
    have hq : Wb.heap[ba]? = some (.cells a.cells 34 (0, 0)) := by rw [hWb, heap_alloc, if_neg (by have := (Array.getElem?_eq_some_iff.1 qh).1; omega)]; exact qh
    have hc : Wb.heap[W3.heap.size]? = some (.cells #[.slice none 0 0, .int .i64 0] 148 (0, 0)) := by rw [hWb, heap_alloc, if_pos rfl]
    have hsz : Wb.heap.size = W3.heap.size + 1 := by rw [hWb]; simp
    have hub : Upd noB w Wb := by rw [hWb]; exact hu.alloc _
    have hne : ba ≠ W3.heap.size := by have := (Array.getElem?_eq_some_iff.1 qh).1; omega
    have g : IQ w Wb Wb ba W3.heap.size _ 0 (.ok []) := ⟨⟨Upd.refl _ _, ⟨by omega, rfl⟩, none, 0, 0, 0, [], hc, nil_own _ _, Nat.le_refl _, rfl, rfl⟩, hub, hq, hne, hu.size⟩
    clear hq hc hsz hub hWb
    generalize W3.heap.size = bw at g ⊢
    have qa := g.qa
    simp [go_sem, qa]
    refine CallP.mono (g.n (k := 8) (by decide) ok.file.1 ok.file.2 (by omega)) ?_
    clear qa g
    rintro v W4 g
    have qa := g.qa
    simp [go_sem]
    have hput : askFf.put A = .ok (leB a.file.toNat 8) := by
      rw [askFf.put_ok hA rfl]
      have e : askFf.unS A = a.file := by unfold askFf; simp only [ha.f]; rfl
      rw [e]
      exact num_put ok.file.1 ok.file.2
    refine CallP.mono g.done ?_
    rintro r W5 ⟨u5, hr⟩
    have hr2 := PutR.base (b' := ba) hr (by have := g.u.size; omega)
    obtain ⟨v5, e5, rfl⟩ := hr.form
    simp [go_sem]
    rw [hput]
    refine ⟨u5, ?_⟩
    simpa [appR] using hr2
theorem leB_14 (n : Nat) (h : n < 256) : leB n 4 = leB n 1 ++ (leB 0 1 ++ leB 0 2) := by
  show [UInt8.ofNat n, UInt8.ofNat (n / 256), UInt8.ofNat (n / 256 / 256), UInt8.ofNat (n / 256 / 256 / 256)] = [UInt8.ofNat n, UInt8.ofNat 0, UInt8.ofNat 0, UInt8.ofNat 0]
  have e0 : n / 256 = 0 := by omega
  rw [e0]
theorem zero1_put : (zeroC 1).put () = .ok (leB 0 1) := by
  show (chkC (numC 1) (fun x => decide (x = 0)) 5).put 0 = _
  rfl
set_option maxHeartbeats 2000000 in
theorem infoPutAsk18 {a : AskV} {A : AskS} (ha : AskAt w a A) (ok : a.ok) : CallP Tryz.prog 88 #[.int .u16 18, .agg a.cells] w (fun r w' => Upd noB w w' ∧ PutR w' w.heap.size r (askF18.put A)) := by
  have hS : SameI (AskV.mk zeroA.dialects zeroA.guid zeroA.proof zeroA.user zeroA.share zeroA.access zeroA.sharing zeroA.way zeroA.options a.level zeroA.durable a.file zeroA.name zeroA.at_ zeroA.n zeroA.data zeroA.locks zeroA.most zeroA.pattern zeroA.after zeroA.cls zeroA.size_ zeroA.on) a ↔ askF18.mkS (askF18.unS A) = A := same_iffI ha (by unfold askF18; simp only [ha.f]; rfl) ⟨rfl, rfl⟩ ⟨rfl, rfl⟩ ⟨rfl, rfl⟩
  refine call_den (args := [_, _]) Tryz.func88 rfl rfl (by simp [Tryz.ntmps88]) ?_
  simp [go_sem]
  refine gen_draw ?_
  intro W hW
  have hu : Upd noB w W := by rw [hW]; exact (by repeat (first | exact Upd.refl _ _ | refine Upd.alloc ?_ _ | refine Upd.drew ?_ | refine Upd.drewN ?_ _ | refine Upd.setB ?_ _ _ (fun h => absurd h (by omega))))
  have qa : AskS0 w.heap.size a W := by unfold AskS0; rw [hW, heap_alloc, if_pos rfl]
  clear hW
  generalize hba : w.heap.size = ba at qa ⊢
  refine Go.Eng.Ch.draw_script [.pure 0, .one 1, .one 2, .pure 3, .pure 4, .chain [5, 7] [6], .one 8, .one 9, .one 10, .pure 11, .pure 12, .one 13, .pure 14, .pure 15, .one 16, .one 17, .pure 18, .pure 19, .one 20, .one 21, .one 22, .one 23, .one 24] (by kernel_rfl) (by kernel_rfl) (by kernel_rfl) ?_
  simp [go_sem]
  replace hu := hu.drew
  have qa' : AskS0 ba a W.drew := qa
  refine CallP.mono (infoKnown_any _ _) ?_
  rintro v W1 ⟨rfl, hW1⟩
  replace hu : Upd noB w W1 := by rw [hW1]; exact hu
  replace qa : AskS0 ba a W1 := by rw [hW1]; exact qa'
  clear hW1 qa'
  simp [go_sem, known10]
  haveI : Nonempty { W : World // AskS0 ba a W } := ⟨⟨W1, qa⟩⟩
  have ql := Q_load_fix (P := Tryz.prog) (W := fun i : { W : World // AskS0 ba a W } => i.1) (fun i => i.2.load)
  refine Go.Eng.Ch.opsPh_chain _ _ (AskS0 ba a) qa ?_
  simp [go_sem, ql]
  refine CallP.mono (infoAsked18 a _) ?_
  rintro v W2 ⟨rfl, u2⟩
  replace hu := hu.trans u2
  replace qa : AskS0 ba a W2 := u2.get qa (fun h => h)
  simp [go_sem, Go.Eng.Ch.contJ_app qa]
  refine CallP.mono (infoSame_any ⟨Nat.zero_le _, Nat.zero_le _, Nat.zero_le _⟩ ha.lens) ?_
  rintro v W3 ⟨x, rfl, hx, u3⟩
  replace hu := hu.trans u3
  replace qa : AskS0 ba a W3 := u3.get qa (fun h => h)
  have qh : W3.heap[ba]? = some (.cells a.cells 34 (0, 0)) := qa
  clear u2 u3
  replace hx := hx.trans hS
  cases x with
  | false =>
    have hA : ¬ askF18.mkS (askF18.unS A) = A := fun h => by have := hx.2 h; cases this
    simp [go_sem, Go.Eng.Ch.contJ_app qa]
    rw [askF18.put_no hA]
    exact ⟨hu, rfl⟩
  | true =>
    have hA := hx.1 rfl
    have cl : IntKind.u64.wrap a.level = a.level := wrap64 ok.level.1 (by have := ok.level; omega)
    simp [go_sem, Go.Eng.Ch.contJ_app qa, qh]
    refine gen_load ?_
    intro Wb hWb
    have hq : Wb.heap[ba]? = some (.cells a.cells 34 (0, 0)) := by rw [hWb, heap_alloc, if_neg (by have := (Array.getElem?_eq_some_iff.1 qh).1; omega)]; exact qh
    have hc : Wb.heap[W3.heap.size]? = some (.cells #[.slice none 0 0, .int .i64 0] 148 (0, 0)) := by rw [hWb, heap_alloc, if_pos rfl]
    have hsz : Wb.heap.size = W3.heap.size + 1 := by rw [hWb]; simp
    have hub : Upd noB w Wb := by rw [hWb]; exact hu.alloc _
    have hne : ba ≠ W3.heap.size := by have := (Array.getElem?_eq_some_iff.1 qh).1; omega
    have g : IQ w Wb Wb ba W3.heap.size _ 0 (.ok []) := ⟨⟨Upd.refl _ _, ⟨by omega, rfl⟩, none, 0, 0, 0, [], hc, nil_own _ _, Nat.le_refl _, rfl, rfl⟩, hub, hq, hne, hu.size⟩
    clear hq hc hsz hub hWb
    generalize W3.heap.size = bw at g ⊢
    have qa := g.qa
    simp [go_sem, qa]
    refine CallP.mono (g.n (k := 8) (by decide) ok.file.1 ok.file.2 (by omega)) ?_
    clear qa g
    rintro v W4 g
    have qa := g.qa
    simp [go_sem, qa, cl]
    refine CallP.mono (g.n (k := 4) (by decide) ok.level.1 (by have := ok.level; omega) (by omega)) ?_
    clear qa g
    rintro v W4 g
    have qa := g.qa
    simp [go_sem]
    have hput : askF18.put A = .ok (leB a.file.toNat 8 ++ leB a.level.toNat 4) := by
      rw [askF18.put_ok hA rfl, leB_14 _ (by have := ok.level; omega)]
      have e : askF18.unS A = (a.file, a.level, (), ()) := by unfold askF18; simp only [ha.f]; rfl
      rw [e]
      exact seq_put (D := fun _ => _) (num_put ok.file.1 ok.file.2) (seq_put (D := fun _ => _) (num_put ok.level.1 ok.level.2) (seq_put (D := fun _ => _) zero1_put zero2_put))
    refine CallP.mono g.done ?_
    rintro r W5 ⟨u5, hr⟩
    have hr2 := PutR.base (b' := ba) hr (by have := g.u.size; omega)
    obtain ⟨v5, e5, rfl⟩ := hr.form
    simp [go_sem]
    rw [hput]
    refine ⟨u5, ?_⟩
    simpa [appR] using hr2
set_option maxHeartbeats 2000000 in
theorem infoPutAsk14 {a : AskV} {A : AskS} (ha : AskAt w a A) (ok : a.ok) (hs1 : a.pattern.size ≤ 1099511627776) (hs2 : a.after.size ≤ 1099511627776) (hT : Tabs w) : CallP Tryz.prog 88 #[.int .u16 14, .agg a.cells] w (fun r w' => Upd noB w w' ∧ PutR w' w.heap.size r (askF14.put A)) := by
  have hS : SameI (AskV.mk zeroA.dialects zeroA.guid zeroA.proof zeroA.user zeroA.share zeroA.access zeroA.sharing zeroA.way zeroA.options zeroA.level zeroA.durable a.file zeroA.name zeroA.at_ zeroA.n zeroA.data zeroA.locks a.most a.pattern a.after zeroA.cls zeroA.size_ zeroA.on) a ↔ askF14.mkS (askF14.unS A) = A := same_iffI ha (by unfold askF14; simp only [ha.f]; rfl) ⟨rfl, rfl⟩ ⟨rfl, rfl⟩ ⟨rfl, rfl⟩
  refine call_den (args := [_, _]) Tryz.func88 rfl rfl (by simp [Tryz.ntmps88]) ?_
  simp [go_sem]
  refine gen_draw ?_
  intro W hW
  have hu : Upd noB w W := by rw [hW]; exact (by repeat (first | exact Upd.refl _ _ | refine Upd.alloc ?_ _ | refine Upd.drew ?_ | refine Upd.drewN ?_ _ | refine Upd.setB ?_ _ _ (fun h => absurd h (by omega))))
  have qa : AskS0 w.heap.size a W := by unfold AskS0; rw [hW, heap_alloc, if_pos rfl]
  clear hW
  generalize hba : w.heap.size = ba at qa ⊢
  refine Go.Eng.Ch.draw_script [.pure 0, .one 1, .one 2, .pure 3, .pure 4, .chain [5, 7] [6], .one 8, .one 9, .one 10, .pure 11, .pure 12, .one 13, .pure 14, .pure 15, .one 16, .one 17, .pure 18, .pure 19, .one 20, .one 21, .one 22, .one 23, .one 24] (by kernel_rfl) (by kernel_rfl) (by kernel_rfl) ?_
  simp [go_sem]
  replace hu := hu.drew
  have qa' : AskS0 ba a W.drew := qa
  refine CallP.mono (infoKnown_any _ _) ?_
  rintro v W1 ⟨rfl, hW1⟩
  replace hu : Upd noB w W1 := by rw [hW1]; exact hu
  replace qa : AskS0 ba a W1 := by rw [hW1]; exact qa'
  clear hW1 qa'
  simp [go_sem, known10]
  haveI : Nonempty { W : World // AskS0 ba a W } := ⟨⟨W1, qa⟩⟩
  have ql := Q_load_fix (P := Tryz.prog) (W := fun i : { W : World // AskS0 ba a W } => i.1) (fun i => i.2.load)
  refine Go.Eng.Ch.opsPh_chain _ _ (AskS0 ba a) qa ?_
  simp [go_sem, ql]
  refine CallP.mono (infoAsked14 a _) ?_
  rintro v W2 ⟨rfl, u2⟩
  replace hu := hu.trans u2
  replace qa : AskS0 ba a W2 := u2.get qa (fun h => h)
  simp [go_sem, Go.Eng.Ch.contJ_app qa]
  refine CallP.mono (infoSame_any ⟨Nat.zero_le _, Nat.zero_le _, Nat.zero_le _⟩ ha.lens) ?_
  rintro v W3 ⟨x, rfl, hx, u3⟩
  replace hu := hu.trans u3
  replace qa : AskS0 ba a W3 := u3.get qa (fun h => h)
  have qh : W3.heap[ba]? = some (.cells a.cells 34 (0, 0)) := qa
  clear u2 u3
  replace hx := hx.trans hS
  cases x with
  | false =>
    have hA : ¬ askF14.mkS (askF14.unS A) = A := fun h => by have := hx.2 h; cases this
    simp [go_sem, Go.Eng.Ch.contJ_app qa]
    rw [askF14.put_no hA]
    exact ⟨hu, rfl⟩
  | true =>
    have hA := hx.1 rfl
    have cm : IntKind.u64.wrap a.most = a.most := wrap64 ok.most.1 (by have := ok.most; omega)
    simp [go_sem, Go.Eng.Ch.contJ_app qa, qh]
    refine gen_load ?_
    intro Wb hWb
    have hq : Wb.heap[ba]? = some (.cells a.cells 34 (0, 0)) := by rw [hWb, heap_alloc, if_neg (by have := (Array.getElem?_eq_some_iff.1 qh).1; omega)]; exact qh
    have hc : Wb.heap[W3.heap.size]? = some (.cells #[.slice none 0 0, .int .i64 0] 148 (0, 0)) := by rw [hWb, heap_alloc, if_pos rfl]
    have hsz : Wb.heap.size = W3.heap.size + 1 := by rw [hWb]; simp
    have hub : Upd noB w Wb := by rw [hWb]; exact hu.alloc _
    have hne : ba ≠ W3.heap.size := by have := (Array.getElem?_eq_some_iff.1 qh).1; omega
    have g : IQ w Wb Wb ba W3.heap.size _ 0 (.ok []) := ⟨⟨Upd.refl _ _, ⟨by omega, rfl⟩, none, 0, 0, 0, [], hc, nil_own _ _, Nat.le_refl _, rfl, rfl⟩, hub, hq, hne, hu.size⟩
    clear hq hc hsz hub hWb
    generalize W3.heap.size = bw at g ⊢
    have qa := g.qa
    simp [go_sem, qa]
    refine CallP.mono (g.n (k := 8) (by decide) ok.file.1 ok.file.2 (by omega)) ?_
    clear qa g
    rintro v W4 g
    have qa := g.qa
    simp [go_sem, qa, cm]
    refine CallP.mono (g.n (k := 4) (by decide) ok.most.1 (by have := ok.most; omega) (by omega)) ?_
    clear qa g
    rintro v W4 g
    have qa := g.qa
    have hbs : ∀ (k : Value → World → Prop), K_buildSlice Tryz.prog 117 2 #[(0, .string a.pattern), (1, .string a.after)] W4 k = k (.slice (some ⟨W4.heap.size, 0, none⟩) 2 2) (W4.alloc (.cells (([a.pattern, a.after] : List ByteArray).map strV).toArray 9)) := fun k => slStr.buildN (P := Tryz.prog) (w := W4) 2 #[(0, .string a.pattern), (1, .string a.after)] rfl (by simp [Value.cells]) (by decide) (by decide) k
    simp [go_sem, qa, hbs]
    refine CallP.mono (g.texts (L := [a.pattern, a.after]) hT (by omega) (by simp) (by intro s hs; simp at hs; rcases hs with rfl | rfl <;> assumption) rfl) ?_
    clear qa g hbs
    rintro v W4 g
    simp [go_sem]
    have hput : askF14.put A = [a.pattern, a.after].foldl textR (appR (leB a.most.toNat 4) (appR (leB a.file.toNat 8) (.ok []))) := by
      rw [askF14.put_ok hA rfl, leB_4 _ (by have := ok.most; omega)]
      have e : askF14.unS A = (a.file, a.most, (), a.pattern, a.after) := by unfold askF14; simp only [ha.f]; rfl
      rw [e]
      show askF14.C.put (a.file, a.most, (), a.pattern, a.after) = textR (textR (.ok (([] ++ leB a.file.toNat 8) ++ (leB a.most.toNat 2 ++ leB 0 2))) a.pattern) a.after
      unfold textR
      cases h1 : textPut a.pattern.data.toList with
      | error z => exact seq_putE (num_put ok.file.1 ok.file.2) (seq_putE (num_put ok.most.1 ok.most.2) (seq_putE zero2_put (seq_putF h1)))
      | ok b1 =>
        cases h2 : textPut a.after.data.toList with
        | error z => exact seq_putE (num_put ok.file.1 ok.file.2) (seq_putE (num_put ok.most.1 ok.most.2) (seq_putE zero2_put (seq_putE (C := textC) h1 h2)))
        | ok b2 =>
          have h := seq_put (D := fun _ => _) (num_put (k := 8) ok.file.1 ok.file.2) (seq_put (D := fun _ => _) (num_put (k := 2) ok.most.1 ok.most.2) (seq_put (D := fun _ => _) zero2_put (seq_put (C := textC) (D := fun _ => textC) h1 h2)))
          refine h.trans ?_
          simp only [List.nil_append, List.append_assoc]
    refine CallP.mono g.done ?_
    rintro r W5 ⟨u5, hr⟩
    have hr2 := PutR.base (b' := ba) hr (by have := g.u.size; omega)
    obtain ⟨v5, e5, rfl⟩ := hr.form
    simp [go_sem]
    rw [hput]
    refine ⟨u5, ?_⟩
    simpa [appR] using hr2
end Go.Proofs.YtinfdomlpbikaaaGreatDoor
namespace Go.Proofs.YtinfdomlpbikaaaGreatDoor
open Go.Eng Go.Lib
set_option linter.unusedSimpArgs false
set_option linter.unusedVariables false
set_option maxRecDepth 100000
variable {w w0 : World}

theorem bool2_put (o : Bool) : (boolC 2).put o = .ok (leB (if o then 1 else 0) 2) := by cases o <;> rfl
set_option maxHeartbeats 2000000 in
theorem infoPutAsk17_1 {a : AskV} {A : AskS} (ha : AskAt w a A) (ok : a.ok) (h : a.cls = 1) : CallP Tryz.prog 88 #[.int .u16 17, .agg a.cells] w (fun r w' => Upd noB w w' ∧ PutR w' w.heap.size r (askF17.put A)) := by
  have ff : A.f.file = a.file := by rw [ha.f]; rfl
  have fc : A.f.cls = a.cls := by rw [ha.f]; rfl
  have fs : A.f.size_ = a.size_ := by rw [ha.f]; rfl
  have fo : A.f.on = a.on := by rw [ha.f]; rfl
  have fn : A.f.name = a.name := by rw [ha.f]; rfl
  have hfr : 0 ≤ A.f.file ∧ A.f.file < 18446744073709551616 := by rw [ff]; exact ok.file
  have hcr : 0 ≤ A.f.cls ∧ A.f.cls < 65536 := by rw [fc]; exact ok.cls
  have hr : 1 ≤ A.f.cls ∧ A.f.cls ≤ 3 := by rw [fc, h]; decide
  have es : s17 A = { zeroAS with f := (AskV.mk zeroA.dialects zeroA.guid zeroA.proof zeroA.user zeroA.share zeroA.access zeroA.sharing zeroA.way zeroA.options zeroA.level zeroA.durable a.file zeroA.name zeroA.at_ zeroA.n zeroA.data zeroA.locks zeroA.most zeroA.pattern zeroA.after a.cls a.size_ zeroA.on) } := by unfold s17 zeroA; simp [fc, ff, fs, fo, fn, h, zeroA]
  have hS : SameI (AskV.mk zeroA.dialects zeroA.guid zeroA.proof zeroA.user zeroA.share zeroA.access zeroA.sharing zeroA.way zeroA.options zeroA.level zeroA.durable a.file zeroA.name zeroA.at_ zeroA.n zeroA.data zeroA.locks zeroA.most zeroA.pattern zeroA.after a.cls a.size_ zeroA.on) a ↔ s17 A = A := by rw [es]; exact same_iffI ha rfl ⟨rfl, rfl⟩ ⟨rfl, rfl⟩ ⟨rfl, rfl⟩
  refine call_den (args := [_, _]) Tryz.func88 rfl rfl (by simp [Tryz.ntmps88]) ?_
  simp [go_sem]
  refine gen_draw ?_
  intro W hW
  have hu : Upd noB w W := by rw [hW]; exact (by repeat (first | exact Upd.refl _ _ | refine Upd.alloc ?_ _ | refine Upd.drew ?_ | refine Upd.drewN ?_ _ | refine Upd.setB ?_ _ _ (fun h => absurd h (by omega))))
  have qa : AskS0 w.heap.size a W := by unfold AskS0; rw [hW, heap_alloc, if_pos rfl]
  clear hW
  generalize hba : w.heap.size = ba at qa ⊢
  refine Go.Eng.Ch.draw_script [.pure 0, .one 1, .one 2, .pure 3, .pure 4, .chain [5, 7] [6], .one 8, .one 9, .one 10, .pure 11, .pure 12, .one 13, .pure 14, .pure 15, .one 16, .one 17, .pure 18, .pure 19, .one 20, .one 21, .one 22, .one 23, .one 24] (by kernel_rfl) (by kernel_rfl) (by kernel_rfl) ?_
  simp [go_sem]
  replace hu := hu.drew
  have qa' : AskS0 ba a W.drew := qa
  refine CallP.mono (infoKnown_any _ _) ?_
  rintro v W1 ⟨rfl, hW1⟩
  replace hu : Upd noB w W1 := by rw [hW1]; exact hu
  replace qa : AskS0 ba a W1 := by rw [hW1]; exact qa'
  clear hW1 qa'
  simp [go_sem, known10]
  haveI : Nonempty { W : World // AskS0 ba a W } := ⟨⟨W1, qa⟩⟩
  have ql := Q_load_fix (P := Tryz.prog) (W := fun i : { W : World // AskS0 ba a W } => i.1) (fun i => i.2.load)
  refine Go.Eng.Ch.opsPh_chain _ _ (AskS0 ba a) qa ?_
  simp [go_sem, ql]
  refine CallP.mono (infoAsked17_1 a h _) ?_
  rintro v W2 ⟨rfl, u2⟩
  replace hu := hu.trans u2
  replace qa : AskS0 ba a W2 := u2.get qa (fun h => h)
  simp [go_sem, Go.Eng.Ch.contJ_app qa]
  refine CallP.mono (infoSame_any ⟨Nat.zero_le _, Nat.zero_le _, Nat.zero_le _⟩ ha.lens) ?_
  rintro v W3 ⟨x, rfl, hx, u3⟩
  replace hu := hu.trans u3
  replace qa : AskS0 ba a W3 := u3.get qa (fun h => h)
  have qh : W3.heap[ba]? = some (.cells a.cells 34 (0, 0)) := qa
  clear u2 u3
  replace hx := hx.trans hS
  cases x with
  | false =>
    have hA : ¬ s17 A = A := fun h => by have := hx.2 h; cases this
    simp [go_sem, Go.Eng.Ch.contJ_app qa]
    rw [ask17_no hfr hcr hr hA]
    exact ⟨hu, rfl⟩
  | true =>
    have hA := hx.1 rfl
    obtain ⟨hm, hv1⟩ := s17_iff.1 hA
    have hv2 : v17 a.cls (a.size_, a.on, a.name) = true := by rw [← fc, ← fs, ← fo, ← fn]; exact hv1
    simp [go_sem, Go.Eng.Ch.contJ_app qa, qh, h]
    refine gen_load ?_
    intro Wb hWb
    have hq : Wb.heap[ba]? = some (.cells a.cells 34 (0, 0)) := by rw [hWb, heap_alloc, if_neg (by have := (Array.getElem?_eq_some_iff.1 qh).1; omega)]; exact qh
    have hc : Wb.heap[W3.heap.size]? = some (.cells #[.slice none 0 0, .int .i64 0] 148 (0, 0)) := by rw [hWb, heap_alloc, if_pos rfl]
    have hsz : Wb.heap.size = W3.heap.size + 1 := by rw [hWb]; simp
    have hub : Upd noB w Wb := by rw [hWb]; exact hu.alloc _
    have hne : ba ≠ W3.heap.size := by have := (Array.getElem?_eq_some_iff.1 qh).1; omega
    have g : IQ w Wb Wb ba W3.heap.size _ 0 (.ok []) := ⟨⟨Upd.refl _ _, ⟨by omega, rfl⟩, none, 0, 0, 0, [], hc, nil_own _ _, Nat.le_refl _, rfl, rfl⟩, hub, hq, hne, hu.size⟩
    clear hq hc hsz hub hWb
    generalize W3.heap.size = bw at g ⊢
    have qa := g.qa
    simp [go_sem, qa]
    refine CallP.mono (g.n (k := 8) (by decide) ok.file.1 ok.file.2 (by omega)) ?_
    clear qa g
    rintro v W4 g
    have qa := g.qa
    have cc : IntKind.u64.wrap (1 : Int) = 1 := wrap64 (by decide) (by decide)
    simp [go_sem, qa, h, cc]
    refine CallP.mono (g.n (k := 2) (by decide) (show (0 : Int) ≤ 1 by decide) (show (1 : Int) < 256 ^ 2 by decide) (by omega)) ?_
    clear qa g
    rintro v W4 g
    have qa := g.qa
    simp [go_sem, qa, h]
    refine CallP.mono (g.n (k := 8) (by decide) ok.size_.1 ok.size_.2 (by omega)) ?_
    clear qa g
    rintro v W4 g
    have qa := g.qa
    simp [go_sem]
    have hb : (clsC A.f.cls).put (A.f.size_, A.f.on, A.f.name) = .ok (leB a.size_.toNat 8) := by
      rw [fc, fs, fo, fn]
      rw [h] at hv2 ⊢
      unfold clsC
      rw [if_pos rfl]
      simp only [subC]
      rw [if_pos (by simpa [v17] using hv2)]
      exact num_put ok.size_.1 ok.size_.2
    have hput := ask17_yes hfr hcr hr hA hb
    simp only [ff, fc, h] at hput
    refine CallP.mono g.done ?_
    rintro r W5 ⟨u5, hr⟩
    have hr2 := PutR.base (b' := ba) hr (by have := g.u.size; omega)
    obtain ⟨v5, e5, rfl⟩ := hr.form
    simp [go_sem]
    rw [hput]
    refine ⟨u5, ?_⟩
    simpa [appR] using hr2
set_option maxHeartbeats 2000000 in
theorem infoPutAsk17_2 {a : AskV} {A : AskS} (ha : AskAt w a A) (ok : a.ok) (h : a.cls = 2) : CallP Tryz.prog 88 #[.int .u16 17, .agg a.cells] w (fun r w' => Upd noB w w' ∧ PutR w' w.heap.size r (askF17.put A)) := by
  have ff : A.f.file = a.file := by rw [ha.f]; rfl
  have fc : A.f.cls = a.cls := by rw [ha.f]; rfl
  have fs : A.f.size_ = a.size_ := by rw [ha.f]; rfl
  have fo : A.f.on = a.on := by rw [ha.f]; rfl
  have fn : A.f.name = a.name := by rw [ha.f]; rfl
  have hfr : 0 ≤ A.f.file ∧ A.f.file < 18446744073709551616 := by rw [ff]; exact ok.file
  have hcr : 0 ≤ A.f.cls ∧ A.f.cls < 65536 := by rw [fc]; exact ok.cls
  have hr : 1 ≤ A.f.cls ∧ A.f.cls ≤ 3 := by rw [fc, h]; decide
  have es : s17 A = { zeroAS with f := (AskV.mk zeroA.dialects zeroA.guid zeroA.proof zeroA.user zeroA.share zeroA.access zeroA.sharing zeroA.way zeroA.options zeroA.level zeroA.durable a.file zeroA.name zeroA.at_ zeroA.n zeroA.data zeroA.locks zeroA.most zeroA.pattern zeroA.after a.cls zeroA.size_ a.on) } := by unfold s17 zeroA; simp [fc, ff, fs, fo, fn, h, zeroA]
  have hS : SameI (AskV.mk zeroA.dialects zeroA.guid zeroA.proof zeroA.user zeroA.share zeroA.access zeroA.sharing zeroA.way zeroA.options zeroA.level zeroA.durable a.file zeroA.name zeroA.at_ zeroA.n zeroA.data zeroA.locks zeroA.most zeroA.pattern zeroA.after a.cls zeroA.size_ a.on) a ↔ s17 A = A := by rw [es]; exact same_iffI ha rfl ⟨rfl, rfl⟩ ⟨rfl, rfl⟩ ⟨rfl, rfl⟩
  refine call_den (args := [_, _]) Tryz.func88 rfl rfl (by simp [Tryz.ntmps88]) ?_
  simp [go_sem]
  refine gen_draw ?_
  intro W hW
  have hu : Upd noB w W := by rw [hW]; exact (by repeat (first | exact Upd.refl _ _ | refine Upd.alloc ?_ _ | refine Upd.drew ?_ | refine Upd.drewN ?_ _ | refine Upd.setB ?_ _ _ (fun h => absurd h (by omega))))
  have qa : AskS0 w.heap.size a W := by unfold AskS0; rw [hW, heap_alloc, if_pos rfl]
  clear hW
  generalize hba : w.heap.size = ba at qa ⊢
  refine Go.Eng.Ch.draw_script [.pure 0, .one 1, .one 2, .pure 3, .pure 4, .chain [5, 7] [6], .one 8, .one 9, .one 10, .pure 11, .pure 12, .one 13, .pure 14, .pure 15, .one 16, .one 17, .pure 18, .pure 19, .one 20, .one 21, .one 22, .one 23, .one 24] (by kernel_rfl) (by kernel_rfl) (by kernel_rfl) ?_
  simp [go_sem]
  replace hu := hu.drew
  have qa' : AskS0 ba a W.drew := qa
  refine CallP.mono (infoKnown_any _ _) ?_
  rintro v W1 ⟨rfl, hW1⟩
  replace hu : Upd noB w W1 := by rw [hW1]; exact hu
  replace qa : AskS0 ba a W1 := by rw [hW1]; exact qa'
  clear hW1 qa'
  simp [go_sem, known10]
  haveI : Nonempty { W : World // AskS0 ba a W } := ⟨⟨W1, qa⟩⟩
  have ql := Q_load_fix (P := Tryz.prog) (W := fun i : { W : World // AskS0 ba a W } => i.1) (fun i => i.2.load)
  refine Go.Eng.Ch.opsPh_chain _ _ (AskS0 ba a) qa ?_
  simp [go_sem, ql]
  refine CallP.mono (infoAsked17_2 a h _) ?_
  rintro v W2 ⟨rfl, u2⟩
  replace hu := hu.trans u2
  replace qa : AskS0 ba a W2 := u2.get qa (fun h => h)
  simp [go_sem, Go.Eng.Ch.contJ_app qa]
  refine CallP.mono (infoSame_any ⟨Nat.zero_le _, Nat.zero_le _, Nat.zero_le _⟩ ha.lens) ?_
  rintro v W3 ⟨x, rfl, hx, u3⟩
  replace hu := hu.trans u3
  replace qa : AskS0 ba a W3 := u3.get qa (fun h => h)
  have qh : W3.heap[ba]? = some (.cells a.cells 34 (0, 0)) := qa
  clear u2 u3
  replace hx := hx.trans hS
  cases x with
  | false =>
    have hA : ¬ s17 A = A := fun h => by have := hx.2 h; cases this
    simp [go_sem, Go.Eng.Ch.contJ_app qa]
    rw [ask17_no hfr hcr hr hA]
    exact ⟨hu, rfl⟩
  | true =>
    have hA := hx.1 rfl
    obtain ⟨hm, hv1⟩ := s17_iff.1 hA
    have hv2 : v17 a.cls (a.size_, a.on, a.name) = true := by rw [← fc, ← fs, ← fo, ← fn]; exact hv1
    simp [go_sem, Go.Eng.Ch.contJ_app qa, qh, h]
    refine gen_load ?_
    intro Wb hWb
    have hq : Wb.heap[ba]? = some (.cells a.cells 34 (0, 0)) := by rw [hWb, heap_alloc, if_neg (by have := (Array.getElem?_eq_some_iff.1 qh).1; omega)]; exact qh
    have hc : Wb.heap[W3.heap.size]? = some (.cells #[.slice none 0 0, .int .i64 0] 148 (0, 0)) := by rw [hWb, heap_alloc, if_pos rfl]
    have hsz : Wb.heap.size = W3.heap.size + 1 := by rw [hWb]; simp
    have hub : Upd noB w Wb := by rw [hWb]; exact hu.alloc _
    have hne : ba ≠ W3.heap.size := by have := (Array.getElem?_eq_some_iff.1 qh).1; omega
    have g : IQ w Wb Wb ba W3.heap.size _ 0 (.ok []) := ⟨⟨Upd.refl _ _, ⟨by omega, rfl⟩, none, 0, 0, 0, [], hc, nil_own _ _, Nat.le_refl _, rfl, rfl⟩, hub, hq, hne, hu.size⟩
    clear hq hc hsz hub hWb
    generalize W3.heap.size = bw at g ⊢
    have qa := g.qa
    simp [go_sem, qa]
    refine CallP.mono (g.n (k := 8) (by decide) ok.file.1 ok.file.2 (by omega)) ?_
    clear qa g
    rintro v W4 g
    have qa := g.qa
    have cc : IntKind.u64.wrap (2 : Int) = 2 := wrap64 (by decide) (by decide)
    simp [go_sem, qa, h, cc]
    refine CallP.mono (g.n (k := 2) (by decide) (show (0 : Int) ≤ 2 by decide) (show (2 : Int) < 256 ^ 2 by decide) (by omega)) ?_
    clear qa g
    rintro v W4 g
    have qa := g.qa
    simp [go_sem, qa, h]
    refine CallP.mono (g.truth (k := 2) (by decide) (by omega)) ?_
    clear qa g
    rintro v W4 g
    simp [go_sem]
    have hb : (clsC A.f.cls).put (A.f.size_, A.f.on, A.f.name) = .ok (leB (if a.on then 1 else 0) 2) := by
      rw [fc, fs, fo, fn]
      rw [h] at hv2 ⊢
      unfold clsC
      rw [if_neg (by decide), if_pos rfl]
      simp only [subC]
      rw [if_pos (by simpa [v17] using hv2)]
      exact bool2_put a.on
    have hput := ask17_yes hfr hcr hr hA hb
    simp only [ff, fc, h] at hput
    refine CallP.mono g.done ?_
    rintro r W5 ⟨u5, hr⟩
    have hr2 := PutR.base (b' := ba) hr (by have := g.u.size; omega)
    obtain ⟨v5, e5, rfl⟩ := hr.form
    simp [go_sem]
    rw [hput]
    refine ⟨u5, ?_⟩
    simpa [appR] using hr2
set_option maxHeartbeats 2000000 in
theorem infoPutAsk17_3 {a : AskV} {A : AskS} (ha : AskAt w a A) (ok : a.ok) (hs : a.name.size ≤ 1099511627776) (hT : Tabs w) (h : a.cls = 3) : CallP Tryz.prog 88 #[.int .u16 17, .agg a.cells] w (fun r w' => Upd noB w w' ∧ PutR w' w.heap.size r (askF17.put A)) := by
  have ff : A.f.file = a.file := by rw [ha.f]; rfl
  have fc : A.f.cls = a.cls := by rw [ha.f]; rfl
  have fs : A.f.size_ = a.size_ := by rw [ha.f]; rfl
  have fo : A.f.on = a.on := by rw [ha.f]; rfl
  have fn : A.f.name = a.name := by rw [ha.f]; rfl
  have hfr : 0 ≤ A.f.file ∧ A.f.file < 18446744073709551616 := by rw [ff]; exact ok.file
  have hcr : 0 ≤ A.f.cls ∧ A.f.cls < 65536 := by rw [fc]; exact ok.cls
  have hr : 1 ≤ A.f.cls ∧ A.f.cls ≤ 3 := by rw [fc, h]; decide
  have es : s17 A = { zeroAS with f := (AskV.mk zeroA.dialects zeroA.guid zeroA.proof zeroA.user zeroA.share zeroA.access zeroA.sharing zeroA.way zeroA.options zeroA.level zeroA.durable a.file a.name zeroA.at_ zeroA.n zeroA.data zeroA.locks zeroA.most zeroA.pattern zeroA.after a.cls zeroA.size_ a.on) } := by unfold s17 zeroA; simp [fc, ff, fs, fo, fn, h, zeroA]
  have hS : SameI (AskV.mk zeroA.dialects zeroA.guid zeroA.proof zeroA.user zeroA.share zeroA.access zeroA.sharing zeroA.way zeroA.options zeroA.level zeroA.durable a.file a.name zeroA.at_ zeroA.n zeroA.data zeroA.locks zeroA.most zeroA.pattern zeroA.after a.cls zeroA.size_ a.on) a ↔ s17 A = A := by rw [es]; exact same_iffI ha rfl ⟨rfl, rfl⟩ ⟨rfl, rfl⟩ ⟨rfl, rfl⟩
  refine call_den (args := [_, _]) Tryz.func88 rfl rfl (by simp [Tryz.ntmps88]) ?_
  simp [go_sem]
  refine gen_draw ?_
  intro W hW
  have hu : Upd noB w W := by rw [hW]; exact (by repeat (first | exact Upd.refl _ _ | refine Upd.alloc ?_ _ | refine Upd.drew ?_ | refine Upd.drewN ?_ _ | refine Upd.setB ?_ _ _ (fun h => absurd h (by omega))))
  have qa : AskS0 w.heap.size a W := by unfold AskS0; rw [hW, heap_alloc, if_pos rfl]
  clear hW
  generalize hba : w.heap.size = ba at qa ⊢
  refine Go.Eng.Ch.draw_script [.pure 0, .one 1, .one 2, .pure 3, .pure 4, .chain [5, 7] [6], .one 8, .one 9, .one 10, .pure 11, .pure 12, .one 13, .pure 14, .pure 15, .one 16, .one 17, .pure 18, .pure 19, .one 20, .one 21, .one 22, .one 23, .one 24] (by kernel_rfl) (by kernel_rfl) (by kernel_rfl) ?_
  simp [go_sem]
  replace hu := hu.drew
  have qa' : AskS0 ba a W.drew := qa
  refine CallP.mono (infoKnown_any _ _) ?_
  rintro v W1 ⟨rfl, hW1⟩
  replace hu : Upd noB w W1 := by rw [hW1]; exact hu
  replace qa : AskS0 ba a W1 := by rw [hW1]; exact qa'
  clear hW1 qa'
  simp [go_sem, known10]
  haveI : Nonempty { W : World // AskS0 ba a W } := ⟨⟨W1, qa⟩⟩
  have ql := Q_load_fix (P := Tryz.prog) (W := fun i : { W : World // AskS0 ba a W } => i.1) (fun i => i.2.load)
  refine Go.Eng.Ch.opsPh_chain _ _ (AskS0 ba a) qa ?_
  simp [go_sem, ql]
  refine CallP.mono (infoAsked17_3 a h _) ?_
  rintro v W2 ⟨rfl, u2⟩
  replace hu := hu.trans u2
  replace qa : AskS0 ba a W2 := u2.get qa (fun h => h)
  simp [go_sem, Go.Eng.Ch.contJ_app qa]
  refine CallP.mono (infoSame_any ⟨Nat.zero_le _, Nat.zero_le _, Nat.zero_le _⟩ ha.lens) ?_
  rintro v W3 ⟨x, rfl, hx, u3⟩
  replace hu := hu.trans u3
  replace qa : AskS0 ba a W3 := u3.get qa (fun h => h)
  have qh : W3.heap[ba]? = some (.cells a.cells 34 (0, 0)) := qa
  clear u2 u3
  replace hx := hx.trans hS
  cases x with
  | false =>
    have hA : ¬ s17 A = A := fun h => by have := hx.2 h; cases this
    simp [go_sem, Go.Eng.Ch.contJ_app qa]
    rw [ask17_no hfr hcr hr hA]
    exact ⟨hu, rfl⟩
  | true =>
    have hA := hx.1 rfl
    obtain ⟨hm, hv1⟩ := s17_iff.1 hA
    have hv2 : v17 a.cls (a.size_, a.on, a.name) = true := by rw [← fc, ← fs, ← fo, ← fn]; exact hv1
    simp [go_sem, Go.Eng.Ch.contJ_app qa, qh, h]
    refine gen_load ?_
    intro Wb hWb
    have hq : Wb.heap[ba]? = some (.cells a.cells 34 (0, 0)) := by rw [hWb, heap_alloc, if_neg (by have := (Array.getElem?_eq_some_iff.1 qh).1; omega)]; exact qh
    have hc : Wb.heap[W3.heap.size]? = some (.cells #[.slice none 0 0, .int .i64 0] 148 (0, 0)) := by rw [hWb, heap_alloc, if_pos rfl]
    have hsz : Wb.heap.size = W3.heap.size + 1 := by rw [hWb]; simp
    have hub : Upd noB w Wb := by rw [hWb]; exact hu.alloc _
    have hne : ba ≠ W3.heap.size := by have := (Array.getElem?_eq_some_iff.1 qh).1; omega
    have g : IQ w Wb Wb ba W3.heap.size _ 0 (.ok []) := ⟨⟨Upd.refl _ _, ⟨by omega, rfl⟩, none, 0, 0, 0, [], hc, nil_own _ _, Nat.le_refl _, rfl, rfl⟩, hub, hq, hne, hu.size⟩
    clear hq hc hsz hub hWb
    generalize W3.heap.size = bw at g ⊢
    have qa := g.qa
    simp [go_sem, qa]
    refine CallP.mono (g.n (k := 8) (by decide) ok.file.1 ok.file.2 (by omega)) ?_
    clear qa g
    rintro v W4 g
    have qa := g.qa
    have cc : IntKind.u64.wrap (3 : Int) = 3 := wrap64 (by decide) (by decide)
    simp [go_sem, qa, h, cc]
    refine CallP.mono (g.n (k := 2) (by decide) (show (0 : Int) ≤ 3 by decide) (show (3 : Int) < 256 ^ 2 by decide) (by omega)) ?_
    clear qa g
    rintro v W4 g
    have qa := g.qa
    simp [go_sem, qa, h]
    refine CallP.mono (g.truth (k := 2) (by decide) (by omega)) ?_
    clear qa g
    rintro v W4 g
    have qa := g.qa
    have hbs : ∀ (k : Value → World → Prop), K_buildSlice Tryz.prog 117 1 #[(0, .string a.name)] W4 k = k (.slice (some ⟨W4.heap.size, 0, none⟩) 1 1) (W4.alloc (.cells (([a.name] : List ByteArray).map strV).toArray 9)) := fun k => slStr.buildN (P := Tryz.prog) (w := W4) 1 #[(0, .string a.name)] rfl (by simp [Value.cells]) (by decide) (by decide) k
    simp [go_sem, qa, hbs]
    refine CallP.mono (g.texts (L := [a.name]) hT (by omega) (by simp) (by intro s hs'; simp at hs'; rw [hs']; exact hs) rfl) ?_
    clear qa g hbs
    rintro v W4 g
    simp [go_sem]
    have hput : askF17.put A = [a.name].foldl textR (appR (leB (if a.on = true then 1 else 0) 2) (appR (leB (3 : Int).toNat 2) (appR (leB a.file.toNat 8) (.ok [])))) := by
      have hcl : ∀ x, (seqC (boolC 2) fun _ => textC).put (a.on, a.name) = x → (clsC A.f.cls).put (A.f.size_, A.f.on, A.f.name) = x := by
        intro x hx
        rw [fc, fs, fo, fn]
        rw [h] at hv2 ⊢
        unfold clsC
        rw [if_neg (by decide), if_neg (by decide)]
        simp only [subC]
        rw [if_pos (by simpa [v17] using hv2)]
        exact hx
      show _ = textR (.ok ((([] ++ leB a.file.toNat 8) ++ leB (3 : Int).toNat 2) ++ leB (if a.on = true then 1 else 0) 2)) a.name
      unfold textR
      cases ht : textPut a.name.data.toList with
      | error e =>
        have := ask17_yes hfr hcr hr hA (hcl _ (seq_putE (bool2_put a.on) ht))
        exact this
      | ok b =>
        have := ask17_yes hfr hcr hr hA (hcl _ (seq_put (C := boolC 2) (D := fun _ => textC) (bool2_put a.on) ht))
        rw [this]
        simp only [ff, fc, h, List.nil_append, List.append_assoc]
    refine CallP.mono g.done ?_
    rintro r W5 ⟨u5, hr⟩
    have hr2 := PutR.base (b' := ba) hr (by have := g.u.size; omega)
    obtain ⟨v5, e5, rfl⟩ := hr.form
    simp [go_sem]
    rw [hput]
    refine ⟨u5, ?_⟩
    simpa [appR] using hr2
set_option maxHeartbeats 2000000 in
theorem infoPutAsk17_0 {a : AskV} {A : AskS} (ha : AskAt w a A) (ok : a.ok) (h : ¬ a.cls = 1 ∧ ¬ a.cls = 2 ∧ ¬ a.cls = 3) : CallP Tryz.prog 88 #[.int .u16 17, .agg a.cells] w (fun r w' => Upd noB w w' ∧ PutR w' w.heap.size r (askF17.put A)) := by
  have ff : A.f.file = a.file := by rw [ha.f]; rfl
  have fc : A.f.cls = a.cls := by rw [ha.f]; rfl
  have fs : A.f.size_ = a.size_ := by rw [ha.f]; rfl
  have fo : A.f.on = a.on := by rw [ha.f]; rfl
  have fn : A.f.name = a.name := by rw [ha.f]; rfl
  have hfr : 0 ≤ A.f.file ∧ A.f.file < 18446744073709551616 := by rw [ff]; exact ok.file
  have hcr : 0 ≤ A.f.cls ∧ A.f.cls < 65536 := by rw [fc]; exact ok.cls
  have hbad : ¬ (1 ≤ A.f.cls ∧ A.f.cls ≤ 3) := by rw [fc]; omega
  rw [ask17_bad hfr hbad]
  refine call_den (args := [_, _]) Tryz.func88 rfl rfl (by simp [Tryz.ntmps88]) ?_
  simp [go_sem]
  refine gen_draw ?_
  intro W hW
  have hu : Upd noB w W := by rw [hW]; exact (by repeat (first | exact Upd.refl _ _ | refine Upd.alloc ?_ _ | refine Upd.drew ?_ | refine Upd.drewN ?_ _ | refine Upd.setB ?_ _ _ (fun h => absurd h (by omega))))
  have qa : AskS0 w.heap.size a W := by unfold AskS0; rw [hW, heap_alloc, if_pos rfl]
  clear hW
  generalize hba : w.heap.size = ba at qa ⊢
  refine Go.Eng.Ch.draw_script [.pure 0, .one 1, .one 2, .pure 3, .pure 4, .chain [5, 7] [6], .one 8, .one 9, .one 10, .pure 11, .pure 12, .one 13, .pure 14, .pure 15, .one 16, .one 17, .pure 18, .pure 19, .one 20, .one 21, .one 22, .one 23, .one 24] (by kernel_rfl) (by kernel_rfl) (by kernel_rfl) ?_
  simp [go_sem]
  replace hu := hu.drew
  have qa' : AskS0 ba a W.drew := qa
  refine CallP.mono (infoKnown_any _ _) ?_
  rintro v W1 ⟨rfl, hW1⟩
  replace hu : Upd noB w W1 := by rw [hW1]; exact hu
  replace qa : AskS0 ba a W1 := by rw [hW1]; exact qa'
  clear hW1 qa'
  simp [go_sem, known10]
  haveI : Nonempty { W : World // AskS0 ba a W } := ⟨⟨W1, qa⟩⟩
  have ql := Q_load_fix (P := Tryz.prog) (W := fun i : { W : World // AskS0 ba a W } => i.1) (fun i => i.2.load)
  refine Go.Eng.Ch.opsPh_chain _ _ (AskS0 ba a) qa ?_
  simp [go_sem, ql]
  refine CallP.mono (infoAsked17_0 a h _) ?_
  rintro v W2 ⟨rfl, u2⟩
  replace hu := hu.trans u2
  replace qa : AskS0 ba a W2 := u2.get qa (fun h => h)
  simp [go_sem, Go.Eng.Ch.contJ_app qa]
  refine CallP.mono (infoSame_any ⟨Nat.zero_le _, Nat.zero_le _, Nat.zero_le _⟩ ha.lens) ?_
  rintro v W3 ⟨x, rfl, hx, u3⟩
  replace hu := hu.trans u3
  replace qa : AskS0 ba a W3 := u3.get qa (fun h => h)
  have qh : W3.heap[ba]? = some (.cells a.cells 34 (0, 0)) := qa
  clear u2 u3
  cases x with
  | false =>
    simp [go_sem, Go.Eng.Ch.contJ_app qa]
    exact ⟨hu, rfl⟩
  | true =>
    by_cases h1 : a.cls < 1
    · simp [go_sem, Go.Eng.Ch.contJ_app qa, qh, h1]
      exact ⟨hu, rfl⟩
    · have h3 : 3 < a.cls := by omega
      simp [go_sem, Go.Eng.Ch.contJ_app qa, qh, h1, h3]
      exact ⟨hu, rfl⟩
theorem infoPutAsk17 {a : AskV} {A : AskS} (ha : AskAt w a A) (ok : a.ok) (hs : a.name.size ≤ 1099511627776) (hT : Tabs w) : CallP Tryz.prog 88 #[.int .u16 17, .agg a.cells] w (fun r w' => Upd noB w w' ∧ PutR w' w.heap.size r (askF17.put A)) := by
  by_cases h1 : a.cls = 1
  · exact infoPutAsk17_1 ha ok h1
  · by_cases h2 : a.cls = 2
    · exact infoPutAsk17_2 ha ok h2
    · by_cases h3 : a.cls = 3
      · exact infoPutAsk17_3 ha ok hs hT h3
      · exact infoPutAsk17_0 ha ok ⟨h1, h2, h3⟩
end Go.Proofs.YtinfdomlpbikaaaGreatDoor
