/-
  What is said about files, put by the program.
  What a List says, put by the program.
  A message's body, put by the program.
  What came in: a message.
  How long a body is that can be put.
  A message, put by the program.
  MsgBack answers true, and writes no memory that was there, of whatever message.
  Go's tables of UTF-8 lie as the row lists them.
  Messages copied, and bytes written over.
  The document's Copy of a message, and its Spoil: bytes of the call's own are written over, those behind the length, too.
  MsgFresh answers true, and writes no memory that was there, of whatever message.
-/
import Derived.Test.YtinfdomlpbikaaaGreatDoorFre10
import Derived.Test.YtinfdomlpbikaaaGreatDoorFre5
import Derived.Test.YtinfdomlpbikaaaGreatDoorFre8
import Derived.Test.YtinfdomlpbikaaaGreatDoorRows
import Derived.Test.YtinfdomlpbikaaaGreatDoorFre2
import Derived.Lib.LaidU8T
import Derived.PinnedBridge
import Derived.Test.YtinfdomlpbikaaaGreatDoorFre6
import Derived.Laws.BitsAllLaws
namespace Go.Proofs.YtinfdomlpbikaaaGreatDoor
open Go.Eng Go.Lib
set_option linter.unusedSimpArgs false
set_option linter.unusedVariables false
set_option maxRecDepth 100000
variable {w w0 : World}
theorem same_iffIS {a X : SayV} {A S : SayS} (ha : SayAt w a A) (hf : S.f = X.bare) (ht : X.data = ⟨none, 0, 0⟩ ∧ S.dat = []) (hl : (X.entries = ⟨none, 0, 0⟩ ∧ S.ent = []) ∨ (X.entries = a.entries ∧ S.ent = A.ent)) : SameIS X a ↔ S = A := by
  rw [← same_iffS ha hf (Or.inl ht) hl]
  unfold SameIS SameNS
  rw [ht.1]
  constructor
  · rintro ⟨h1, h2, h3⟩
    exact ⟨h1, by show 0 = _; have : 0 + a.data.n = 0 := h2; omega, h3⟩
  · rintro ⟨h1, h2, h3⟩
    exact ⟨h1, by show 0 + a.data.n = 0; have : 0 = a.data.n := h2; omega, h3⟩
/-- an element, loaded whole -/
theorem ent_load {W : World} {v : Value} {L : List EntV} (h : RowAt W 3 v L.length (L.flatMap EntV.row)) (i : Nat) (hi : i < L.length) :
    ∃ q, (∀ kk, (Instr.indexAt 37 v (.int kk i)).run Tryz.prog W = .ok (.pointer (some q)) W) ∧ ∀ K, K_load Tryz.prog 114 (.pointer (some q)) W K = K (.agg L[i].row.toArray) W := by
  obtain ⟨q, h1, _, h3⟩ := h.atN (P := Tryz.prog) (t := 37) (e := 114) Tryz.underlying37 Tryz.sizeOf114 Tryz.isAgg114 i hi
  rw [flat_at EntV.row 3 (fun _ => rfl) L i hi] at h3
  exact ⟨q, h1, h3⟩
def mayP (a : SayV) (A : SayS) : Prop := A.ent.all entOk = true ∧ a.kind ≤ 2
def MyI (w : World) (ba : Nat) (a : SayV) (L : List EntV) (m : Nat) (ρ : Env) (W : World) : Prop :=
  ∃ i : Nat, m = L.length - i ∧ i ≤ L.length ∧ (L.take i).all entOk = true ∧ Upd noB w W ∧ W.heap[ba]? = some (.cells a.cells 39 (0, 0)) ∧ ρ 1 = .pointer (some ⟨ba, 0, none⟩) ∧ ρ 6 = .slice a.entries.p a.entries.n a.entries.cap ∧ ρ 7 = .int .i64 L.length ∧ ρ 8 = .int .i64 i
set_option maxHeartbeats 2000000 in
theorem infoMay_any {a : SayV} {A : SayS} (ha : SayAt w a A) : CallP Tryz.prog 144 #[.agg a.cells] w (IffX w (mayP a A)) := by
  have hne : a.entries.n = A.ent.length := ha.nums.2
  have hel := ha.el
  refine call_den (args := [_]) Tryz.func144 rfl rfl (by simp [Tryz.ntmps144]) ?_
  simp [go_sem]
  refine den_loop (MyI w w.heap.size a A.ent) A.ent.length ?_ ?_
  · exact ⟨0, rfl, by omega, rfl, (Upd.refl _ _).alloc _, by rw [heap_alloc, if_pos rfl], by simp [go_sem], by simp [go_sem], by simp [go_sem, hne], by simp [go_sem]⟩
  rintro m ρ W ⟨i, rfl, hi, hop, hu, qh, g1, g6, g7, g8⟩
  by_cases hlt : i < A.ent.length
  · have hlt' : (i : Int) < A.ent.length := by omega
    have hwr : IntKind.i64.wrap ((i : Int) + 1) = ((i + 1 : Nat) : Int) := wrap64_id (by omega) (by omega)
    obtain ⟨q, hidx, hK⟩ := ent_load (ha.keep hu).ent i hlt
    obtain ⟨y, hy⟩ : ∃ y, y = A.ent[i] := ⟨_, rfl⟩
    rw [← hy] at hK
    have hbad : entOk y = false → ¬ mayP a A := by
      rintro h1 ⟨h2, _⟩
      have := List.all_eq_true.1 h2 y (by rw [hy]; exact List.getElem_mem hlt)
      rw [h1] at this; cases this
    have hu2 : ∀ o, Upd noB w ((W.alloc o).setB W.heap.size o) := fun o => (hu.alloc _).setB _ _ (fun h => absurd h (by have := hu.size; omega))
    by_cases h1 : y.kind ≤ 2
    · have h1' : ¬ 2 < y.kind := by omega
      by_cases h2 : 0 ≤ y.size
      · have h2' : ¬ y.size < 0 := by omega
        by_cases h3 : y.size ≤ 1048576
        · have h3' : ¬ 1048576 < y.size := by omega
          simp [go_sem, g1, g6, g7, g8, hlt', hlt, hidx, hK, EntV.row, h1, h1', h2, h2', h3, h3', hwr]
          refine ⟨A.ent.length - (i + 1), by omega, i + 1, rfl, by omega, ?_, (hu.alloc _).setB _ _ (fun h => absurd h (by have := hu.size; omega)), ?_, by simp [go_sem, g1], by simp [go_sem, g6], by simp [go_sem, g7], by simp [go_sem]⟩
          · rw [List.take_succ_eq_append_getElem hlt, List.all_append, hop, ← hy]
            simp [entOk, h1, h2, h3]
          · have hbl := (Array.getElem?_eq_some_iff.1 qh).1
            rw [heap_setB, if_neg (by omega), heap_alloc, if_neg (by omega)]
            exact qh
        · have h3' : 1048576 < y.size := by omega
          simp [go_sem, g1, g6, g7, g8, hlt', hlt, hidx, hK, EntV.row, h1, h1', h2, h2', h3, h3']
          exact ⟨false, rfl, ⟨fun h => (by cases h), fun h => absurd h (hbad (by simp [entOk, h3]))⟩, (hu.alloc _).setB _ _ (fun h => absurd h (by have := hu.size; omega))⟩
      · have h2' : y.size < 0 := by omega
        simp [go_sem, g1, g6, g7, g8, hlt', hlt, hidx, hK, EntV.row, h1, h1', h2, h2']
        exact ⟨false, rfl, ⟨fun h => (by cases h), fun h => absurd h (hbad (by simp [entOk, h2]))⟩, (hu.alloc _).setB _ _ (fun h => absurd h (by have := hu.size; omega))⟩
    · have h1' : 2 < y.kind := by omega
      simp [go_sem, g1, g6, g7, g8, hlt', hlt, hidx, hK, EntV.row, h1, h1']
      exact ⟨false, rfl, ⟨fun h => (by cases h), fun h => absurd h (hbad (by simp [entOk, h1]))⟩, (hu.alloc _).setB _ _ (fun h => absurd h (by have := hu.size; omega))⟩
  · obtain rfl : i = A.ent.length := by omega
    rw [List.take_length] at hop
    simp [go_sem, g1, g6, g7, g8, qh]
    exact ⟨decide (a.kind ≤ 2), rfl, by rw [decide_eq_true_iff]; exact ⟨fun h => ⟨hop, h⟩, fun h => h.2⟩, hu⟩
theorem infoSaid14 (a : SayV) (w : World) : CallP Tryz.prog 143 #[.int .u16 14, .agg a.cells] w (fun r w' => r = .agg (SayV.cells (SayV.mk zeroS.dialect zeroS.size_ zeroS.challenge zeroS.level zeroS.durable zeroS.made zeroS.file zeroS.kind zeroS.data zeroS.n a.entries a.more zeroS.gone)) ∧ Upd noB w w') := by
  refine call_den (args := [_, _]) Tryz.func143 rfl rfl (by simp [Tryz.ntmps143]) ?_
  simp [go_sem]
  exact (by repeat (first | exact Upd.refl _ _ | refine Upd.alloc ?_ _ | refine Upd.drew ?_ | refine Upd.drewN ?_ _ | refine Upd.setB ?_ _ _ (fun h => absurd h (by omega))))
theorem infoSaid16 (a : SayV) (w : World) : CallP Tryz.prog 143 #[.int .u16 16, .agg a.cells] w (fun r w' => r = .agg (SayV.cells (SayV.mk zeroS.dialect a.size_ zeroS.challenge zeroS.level zeroS.durable zeroS.made zeroS.file a.kind zeroS.data zeroS.n zeroS.entries zeroS.more a.gone)) ∧ Upd noB w w') := by
  refine call_den (args := [_, _]) Tryz.func143 rfl rfl (by simp [Tryz.ntmps143]) ?_
  simp [go_sem]
  exact (by repeat (first | exact Upd.refl _ _ | refine Upd.alloc ?_ _ | refine Upd.drew ?_ | refine Upd.drewN ?_ _ | refine Upd.setB ?_ _ _ (fun h => absurd h (by omega))))
theorem infoSaid18 (a : SayV) (w : World) : CallP Tryz.prog 143 #[.int .u16 18, .agg a.cells] w (fun r w' => r = .agg (SayV.cells (SayV.mk zeroS.dialect zeroS.size_ zeroS.challenge a.level zeroS.durable zeroS.made a.file zeroS.kind zeroS.data zeroS.n zeroS.entries zeroS.more zeroS.gone)) ∧ Upd noB w w') := by
  refine call_den (args := [_, _]) Tryz.func143 rfl rfl (by simp [Tryz.ntmps143]) ?_
  simp [go_sem]
  exact (by repeat (first | exact Upd.refl _ _ | refine Upd.alloc ?_ _ | refine Upd.drew ?_ | refine Upd.drewN ?_ _ | refine Upd.setB ?_ _ _ (fun h => absurd h (by omega))))
theorem infoSaid17 (a : SayV) (w : World) : CallP Tryz.prog 143 #[.int .u16 17, .agg a.cells] w (fun r w' => r = .agg (SayV.cells (SayV.mk zeroS.dialect zeroS.size_ zeroS.challenge zeroS.level zeroS.durable zeroS.made zeroS.file zeroS.kind zeroS.data zeroS.n zeroS.entries zeroS.more zeroS.gone)) ∧ Upd noB w w') := by
  refine call_den (args := [_, _]) Tryz.func143 rfl rfl (by simp [Tryz.ntmps143]) ?_
  simp [go_sem]
  exact (by repeat (first | exact Upd.refl _ _ | refine Upd.alloc ?_ _ | refine Upd.drew ?_ | refine Upd.drewN ?_ _ | refine Upd.setB ?_ _ _ (fun h => absurd h (by omega))))
theorem infoPutSay12 {a : SayV} {A : SayS} : CallP Tryz.prog 90 #[.int .u16 12, .agg a.cells] w (fun r w' => Upd noB w w' ∧ PutR w' w.heap.size r (.error 2)) := by
  refine call_den (args := [_, _]) Tryz.func90 rfl rfl (by simp [Tryz.ntmps90]) ?_
  simp [go_sem]
  refine gen_draw ?_
  intro W hW
  have hu : Upd noB w W := by rw [hW]; exact (by repeat (first | exact Upd.refl _ _ | refine Upd.alloc ?_ _ | refine Upd.drew ?_ | refine Upd.drewN ?_ _ | refine Upd.setB ?_ _ _ (fun h => absurd h (by omega))))
  have qa : SayS0 w.heap.size a W := by unfold SayS0; rw [hW, heap_alloc, if_pos rfl]
  clear hW
  generalize hba : w.heap.size = ba at qa ⊢
  refine Go.Eng.Ch.draw_script [.pure 0, .one 1, .one 2, .pure 3, .pure 4, .one 5, .one 6, .pure 7, .pure 8, .chain [9, 11] [10], .one 12, .one 13, .one 14, .pure 15, .one 16, .one 17, .one 18, .one 19, .pure 20] (by kernel_rfl) (by kernel_rfl) (by kernel_rfl) ?_
  simp [go_sem]
  replace hu := hu.drew
  have qa' : SayS0 ba a W.drew := qa
  refine CallP.mono (infoKnown_any _ _) ?_
  rintro v W1 ⟨rfl, hW1⟩
  replace hu : Upd noB w W1 := by rw [hW1]; exact hu
  replace qa : SayS0 ba a W1 := by rw [hW1]; exact qa'
  clear hW1 qa'
  simp [go_sem, known10]
  haveI : Nonempty { W : World // SayS0 ba a W } := ⟨⟨W1, qa⟩⟩
  have ql := Q_load_fix (P := Tryz.prog) (W := fun i : { W : World // SayS0 ba a W } => i.1) (fun i => i.2.load)
  refine Go.Eng.Ch.opsPh_chain _ _ (SayS0 ba a) qa ?_
  simp [go_sem, ql, Go.Eng.Ch.contJ_app qa]
  exact ⟨hu, rfl⟩
set_option maxHeartbeats 2000000 in
theorem infoPutSay17 {a : SayV} {A : SayS} (ha : SayAt w a A) (ok : a.ok) : CallP Tryz.prog 90 #[.int .u16 17, .agg a.cells] w (fun r w' => Upd noB w w' ∧ PutR w' w.heap.size r (sayFz.put A)) := by
  have hS : SameIS (SayV.mk zeroS.dialect zeroS.size_ zeroS.challenge zeroS.level zeroS.durable zeroS.made zeroS.file zeroS.kind zeroS.data zeroS.n zeroS.entries zeroS.more zeroS.gone) a ↔ sayFz.mkS (sayFz.unS A) = A := same_iffIS ha (by unfold sayFz; simp only [ha.f]; rfl) ⟨rfl, rfl⟩ (Or.inl ⟨rfl, rfl⟩)
  refine call_den (args := [_, _]) Tryz.func90 rfl rfl (by simp [Tryz.ntmps90]) ?_
  simp [go_sem]
  refine gen_draw ?_
  intro W hW
  have hu : Upd noB w W := by rw [hW]; exact (by repeat (first | exact Upd.refl _ _ | refine Upd.alloc ?_ _ | refine Upd.drew ?_ | refine Upd.drewN ?_ _ | refine Upd.setB ?_ _ _ (fun h => absurd h (by omega))))
  have qa : SayS0 w.heap.size a W := by unfold SayS0; rw [hW, heap_alloc, if_pos rfl]
  clear hW
  generalize hba : w.heap.size = ba at qa ⊢
  refine Go.Eng.Ch.draw_script [.pure 0, .one 1, .one 2, .pure 3, .pure 4, .one 5, .one 6, .pure 7, .pure 8, .chain [9, 11] [10], .one 12, .one 13, .one 14, .pure 15, .one 16, .one 17, .one 18, .one 19, .pure 20] (by kernel_rfl) (by kernel_rfl) (by kernel_rfl) ?_
  simp [go_sem]
  replace hu := hu.drew
  have qa' : SayS0 ba a W.drew := qa
  refine CallP.mono (infoKnown_any _ _) ?_
  rintro v W1 ⟨rfl, hW1⟩
  replace hu : Upd noB w W1 := by rw [hW1]; exact hu
  replace qa : SayS0 ba a W1 := by rw [hW1]; exact qa'
  clear hW1 qa'
  simp [go_sem, known10]
  haveI : Nonempty { W : World // SayS0 ba a W } := ⟨⟨W1, qa⟩⟩
  have ql := Q_load_fix (P := Tryz.prog) (W := fun i : { W : World // SayS0 ba a W } => i.1) (fun i => i.2.load)
  refine Go.Eng.Ch.opsPh_chain _ _ (SayS0 ba a) qa ?_
  simp [go_sem, ql]
  refine CallP.mono (infoSaid17 a _) ?_
  rintro v W2 ⟨rfl, u2⟩
  replace hu := hu.trans u2
  replace qa : SayS0 ba a W2 := u2.get qa (fun h => h)
  simp [go_sem, Go.Eng.Ch.contJ_app qa]
  refine CallP.mono (infoSameSay_any (⟨Nat.zero_le _, Nat.zero_le _⟩) ha.lens) ?_
  rintro v W3 ⟨x, rfl, hx, u3⟩
  replace hx := hx.trans hS
  replace hu := hu.trans u3
  replace qa : SayS0 ba a W3 := u3.get qa (fun h => h)
  have qh : W3.heap[ba]? = some (.cells a.cells 39 (0, 0)) := qa
  clear u2 u3
  cases x with
  | false =>
    have hA : ¬ sayFz.mkS (sayFz.unS A) = A := fun h => by have := hx.2 h; cases this
    simp [go_sem, Go.Eng.Ch.contJ_app qa]
    rw [sayFz.put_no hA]
    exact ⟨hu, rfl⟩
  | true =>
    have hA := hx.1 rfl
    have hent : A.ent = [] := by rw [← hA]; rfl
    have hne : a.entries.n = 0 := by rw [ha.nums.2, hent]; rfl
    simp [go_sem, Go.Eng.Ch.contJ_app qa, qh]
    refine CallP.mono (infoMay_any (ha.keep hu)) ?_
    rintro v W4 ⟨x, rfl, hy, u4⟩
    replace hu := hu.trans u4
    replace qh := u4.get qh (fun h => h)
    clear u4 qa
    have hk : a.kind = 0 := show a.bare.kind = 0 by rw [← ha.f, ← hA]; rfl
    obtain rfl : x = true := hy.2 ⟨by rw [hent]; rfl, by omega⟩
    simp [go_sem, qh, hne]
    refine gen_call ?_
    intro Wb hWb
    have hq : Wb.heap[ba]? = some (.cells a.cells 39 (0, 0)) := by rw [hWb, heap_alloc, if_neg (by have := (Array.getElem?_eq_some_iff.1 qh).1; omega)]; exact qh
    have hc : Wb.heap[W4.heap.size]? = some (.cells #[.slice none 0 0, .int .i64 0] 148 (0, 0)) := by rw [hWb, heap_alloc, if_pos rfl]
    have hsz : Wb.heap.size = W4.heap.size + 1 := by rw [hWb]; simp
    have hub : Upd noB w Wb := by rw [hWb]; exact hu.alloc _
    have hne : ba ≠ W4.heap.size := by have := (Array.getElem?_eq_some_iff.1 qh).1; omega
    have g : IQ w Wb Wb ba W4.heap.size _ 0 (.ok []) := ⟨⟨Upd.refl _ _, ⟨by omega, rfl⟩, none, 0, 0, 0, [], hc, nil_own _ _, Nat.le_refl _, rfl, rfl⟩, hub, hq, hne, hu.size⟩
    clear hq hc hsz hub hWb
    generalize W4.heap.size = bw at g ⊢
    have qa := g.qa
    refine CallP.mono (g.n (k := 4) (by decide) (by decide) (by decide) (by omega)) ?_
    clear qa g
    rintro v W5 g
    have qa := g.qa
    simp [go_sem]
    have hput : sayFz.put A = .ok (leB (0 : Int).toNat 4) := by rw [sayFz.put_ok hA rfl]; exact zero4_put
    refine CallP.mono g.done ?_
    rintro r W6 ⟨u6, hr⟩
    have hr2 := PutR.base (b' := ba) hr (by have := g.u.size; omega)
    obtain ⟨v6, e6, rfl⟩ := hr.form
    simp [go_sem]
    rw [hput]
    refine ⟨u6, ?_⟩
    simpa [appR] using hr2
set_option maxHeartbeats 2000000 in
theorem infoPutSay18 {a : SayV} {A : SayS} (ha : SayAt w a A) (ok : a.ok) : CallP Tryz.prog 90 #[.int .u16 18, .agg a.cells] w (fun r w' => Upd noB w w' ∧ PutR w' w.heap.size r (sayF18.put A)) := by
  have hS : SameIS (SayV.mk zeroS.dialect zeroS.size_ zeroS.challenge a.level zeroS.durable zeroS.made a.file zeroS.kind zeroS.data zeroS.n zeroS.entries zeroS.more zeroS.gone) a ↔ sayF18.mkS (sayF18.unS A) = A := same_iffIS ha (by unfold sayF18; simp only [ha.f]; rfl) ⟨rfl, rfl⟩ (Or.inl ⟨rfl, rfl⟩)
  refine call_den (args := [_, _]) Tryz.func90 rfl rfl (by simp [Tryz.ntmps90]) ?_
  simp [go_sem]
  refine gen_draw ?_
  intro W hW
  have hu : Upd noB w W := by rw [hW]; exact (by repeat (first | exact Upd.refl _ _ | refine Upd.alloc ?_ _ | refine Upd.drew ?_ | refine Upd.drewN ?_ _ | refine Upd.setB ?_ _ _ (fun h => absurd h (by omega))))
  have qa : SayS0 w.heap.size a W := by unfold SayS0; rw [hW, heap_alloc, if_pos rfl]
  clear hW
  generalize hba : w.heap.size = ba at qa ⊢
  refine Go.Eng.Ch.draw_script [.pure 0, .one 1, .one 2, .pure 3, .pure 4, .one 5, .one 6, .pure 7, .pure 8, .chain [9, 11] [10], .one 12, .one 13, .one 14, .pure 15, .one 16, .one 17, .one 18, .one 19, .pure 20] (by kernel_rfl) (by kernel_rfl) (by kernel_rfl) ?_
  simp [go_sem]
  replace hu := hu.drew
  have qa' : SayS0 ba a W.drew := qa
  refine CallP.mono (infoKnown_any _ _) ?_
  rintro v W1 ⟨rfl, hW1⟩
  replace hu : Upd noB w W1 := by rw [hW1]; exact hu
  replace qa : SayS0 ba a W1 := by rw [hW1]; exact qa'
  clear hW1 qa'
  simp [go_sem, known10]
  haveI : Nonempty { W : World // SayS0 ba a W } := ⟨⟨W1, qa⟩⟩
  have ql := Q_load_fix (P := Tryz.prog) (W := fun i : { W : World // SayS0 ba a W } => i.1) (fun i => i.2.load)
  refine Go.Eng.Ch.opsPh_chain _ _ (SayS0 ba a) qa ?_
  simp [go_sem, ql]
  refine CallP.mono (infoSaid18 a _) ?_
  rintro v W2 ⟨rfl, u2⟩
  replace hu := hu.trans u2
  replace qa : SayS0 ba a W2 := u2.get qa (fun h => h)
  simp [go_sem, Go.Eng.Ch.contJ_app qa]
  refine CallP.mono (infoSameSay_any (⟨Nat.zero_le _, Nat.zero_le _⟩) ha.lens) ?_
  rintro v W3 ⟨x, rfl, hx, u3⟩
  replace hx := hx.trans hS
  replace hu := hu.trans u3
  replace qa : SayS0 ba a W3 := u3.get qa (fun h => h)
  have qh : W3.heap[ba]? = some (.cells a.cells 39 (0, 0)) := qa
  clear u2 u3
  cases x with
  | false =>
    have hA : ¬ sayF18.mkS (sayF18.unS A) = A := fun h => by have := hx.2 h; cases this
    simp [go_sem, Go.Eng.Ch.contJ_app qa]
    rw [sayF18.put_no hA]
    exact ⟨hu, rfl⟩
  | true =>
    have hA := hx.1 rfl
    have hent : A.ent = [] := by rw [← hA]; rfl
    have hne : a.entries.n = 0 := by rw [ha.nums.2, hent]; rfl
    simp [go_sem, Go.Eng.Ch.contJ_app qa, qh]
    refine CallP.mono (infoMay_any (ha.keep hu)) ?_
    rintro v W4 ⟨x, rfl, hy, u4⟩
    replace hu := hu.trans u4
    replace qh := u4.get qh (fun h => h)
    clear u4 qa
    have hk : a.kind = 0 := show a.bare.kind = 0 by rw [← ha.f, ← hA]; rfl
    obtain rfl : x = true := hy.2 ⟨by rw [hent]; rfl, by omega⟩
    have cl : IntKind.u64.wrap a.level = a.level := wrap64 ok.level.1 (by have := ok.level; omega)
    simp [go_sem, qh, hne]
    refine gen_load ?_
    intro Wb hWb
    have hq : Wb.heap[ba]? = some (.cells a.cells 39 (0, 0)) := by rw [hWb, heap_alloc, if_neg (by have := (Array.getElem?_eq_some_iff.1 qh).1; omega)]; exact qh
    have hc : Wb.heap[W4.heap.size]? = some (.cells #[.slice none 0 0, .int .i64 0] 148 (0, 0)) := by rw [hWb, heap_alloc, if_pos rfl]
    have hsz : Wb.heap.size = W4.heap.size + 1 := by rw [hWb]; simp
    have hub : Upd noB w Wb := by rw [hWb]; exact hu.alloc _
    have hne : ba ≠ W4.heap.size := by have := (Array.getElem?_eq_some_iff.1 qh).1; omega
    have g : IQ w Wb Wb ba W4.heap.size _ 0 (.ok []) := ⟨⟨Upd.refl _ _, ⟨by omega, rfl⟩, none, 0, 0, 0, [], hc, nil_own _ _, Nat.le_refl _, rfl, rfl⟩, hub, hq, hne, hu.size⟩
    clear hq hc hsz hub hWb
    generalize W4.heap.size = bw at g ⊢
    have qa := g.qa
    simp [go_sem, qa]
    refine CallP.mono (g.n (k := 8) (by decide) ok.file.1 ok.file.2 (by omega)) ?_
    clear qa g
    rintro v W5 g
    have qa := g.qa
    simp [go_sem, qa, cl]
    refine CallP.mono (g.n (k := 4) (by decide) ok.level.1 (by have := ok.level; omega) (by omega)) ?_
    clear qa g
    rintro v W5 g
    have qa := g.qa
    simp [go_sem]
    have hput : sayF18.put A = .ok (leB a.file.toNat 8 ++ leB a.level.toNat 4) := by
      rw [sayF18.put_ok hA rfl, leB_14 _ (by have := ok.level; omega)]
      have e : sayF18.unS A = (a.file, a.level, (), ()) := by unfold sayF18; simp only [ha.f]; rfl
      rw [e]
      exact seq_put (D := fun _ => _) (num_put ok.file.1 ok.file.2) (seq_put (D := fun _ => _) (num_put ok.level.1 ok.level.2) (seq_put (D := fun _ => _) zero1_put zero2_put))
    refine CallP.mono g.done ?_
    rintro r W6 ⟨u6, hr⟩
    have hr2 := PutR.base (b' := ba) hr (by have := g.u.size; omega)
    obtain ⟨v6, e6, rfl⟩ := hr.form
    simp [go_sem]
    rw [hput]
    refine ⟨u6, ?_⟩
    simpa [appR] using hr2
set_option maxHeartbeats 2000000 in
theorem infoPutSay16 {a : SayV} {A : SayS} (ha : SayAt w a A) (ok : a.ok) : CallP Tryz.prog 90 #[.int .u16 16, .agg a.cells] w (fun r w' => Upd noB w w' ∧ PutR w' w.heap.size r (sayF16.put A)) := by
  have hS : SameIS (SayV.mk zeroS.dialect a.size_ zeroS.challenge zeroS.level zeroS.durable zeroS.made zeroS.file a.kind zeroS.data zeroS.n zeroS.entries zeroS.more a.gone) a ↔ sayF16.mkS (sayF16.unS A) = A := same_iffIS ha (by unfold sayF16; simp only [ha.f]; rfl) ⟨rfl, rfl⟩ (Or.inl ⟨rfl, rfl⟩)
  refine call_den (args := [_, _]) Tryz.func90 rfl rfl (by simp [Tryz.ntmps90]) ?_
  simp [go_sem]
  refine gen_draw ?_
  intro W hW
  have hu : Upd noB w W := by rw [hW]; exact (by repeat (first | exact Upd.refl _ _ | refine Upd.alloc ?_ _ | refine Upd.drew ?_ | refine Upd.drewN ?_ _ | refine Upd.setB ?_ _ _ (fun h => absurd h (by omega))))
  have qa : SayS0 w.heap.size a W := by unfold SayS0; rw [hW, heap_alloc, if_pos rfl]
  clear hW
  generalize hba : w.heap.size = ba at qa ⊢
  refine Go.Eng.Ch.draw_script [.pure 0, .one 1, .one 2, .pure 3, .pure 4, .one 5, .one 6, .pure 7, .pure 8, .chain [9, 11] [10], .one 12, .one 13, .one 14, .pure 15, .one 16, .one 17, .one 18, .one 19, .pure 20] (by kernel_rfl) (by kernel_rfl) (by kernel_rfl) ?_
  simp [go_sem]
  replace hu := hu.drew
  have qa' : SayS0 ba a W.drew := qa
  refine CallP.mono (infoKnown_any _ _) ?_
  rintro v W1 ⟨rfl, hW1⟩
  replace hu : Upd noB w W1 := by rw [hW1]; exact hu
  replace qa : SayS0 ba a W1 := by rw [hW1]; exact qa'
  clear hW1 qa'
  simp [go_sem, known10]
  haveI : Nonempty { W : World // SayS0 ba a W } := ⟨⟨W1, qa⟩⟩
  have ql := Q_load_fix (P := Tryz.prog) (W := fun i : { W : World // SayS0 ba a W } => i.1) (fun i => i.2.load)
  refine Go.Eng.Ch.opsPh_chain _ _ (SayS0 ba a) qa ?_
  simp [go_sem, ql]
  refine CallP.mono (infoSaid16 a _) ?_
  rintro v W2 ⟨rfl, u2⟩
  replace hu := hu.trans u2
  replace qa : SayS0 ba a W2 := u2.get qa (fun h => h)
  simp [go_sem, Go.Eng.Ch.contJ_app qa]
  refine CallP.mono (infoSameSay_any (⟨Nat.zero_le _, Nat.zero_le _⟩) ha.lens) ?_
  rintro v W3 ⟨x, rfl, hx, u3⟩
  replace hx := hx.trans hS
  replace hu := hu.trans u3
  replace qa : SayS0 ba a W3 := u3.get qa (fun h => h)
  have qh : W3.heap[ba]? = some (.cells a.cells 39 (0, 0)) := qa
  clear u2 u3
  cases x with
  | false =>
    have hA : ¬ sayF16.mkS (sayF16.unS A) = A := fun h => by have := hx.2 h; cases this
    simp [go_sem, Go.Eng.Ch.contJ_app qa]
    rw [sayF16.put_no hA]
    exact ⟨hu, rfl⟩
  | true =>
    have hA := hx.1 rfl
    have hent : A.ent = [] := by rw [← hA]; rfl
    have hne : a.entries.n = 0 := by rw [ha.nums.2, hent]; rfl
    simp [go_sem, Go.Eng.Ch.contJ_app qa, qh]
    refine CallP.mono (infoMay_any (ha.keep hu)) ?_
    rintro v W4 ⟨x, rfl, hy, u4⟩
    replace hu := hu.trans u4
    replace qh := u4.get qh (fun h => h)
    clear u4 qa
    have e : sayF16.unS A = (a.size_, a.kind, a.gone) := by unfold sayF16; simp only [ha.f]; rfl
    by_cases hk : a.kind ≤ 2
    · obtain rfl : x = true := hy.2 ⟨by rw [hent]; rfl, hk⟩
      have ck : IntKind.u64.wrap a.kind = a.kind := wrap64 ok.kind.1 (by have := ok.kind; omega)
      simp [go_sem, qh, hne]
      refine gen_load ?_
      intro Wb hWb
      have hq : Wb.heap[ba]? = some (.cells a.cells 39 (0, 0)) := by rw [hWb, heap_alloc, if_neg (by have := (Array.getElem?_eq_some_iff.1 qh).1; omega)]; exact qh
      have hc : Wb.heap[W4.heap.size]? = some (.cells #[.slice none 0 0, .int .i64 0] 148 (0, 0)) := by rw [hWb, heap_alloc, if_pos rfl]
      have hsz : Wb.heap.size = W4.heap.size + 1 := by rw [hWb]; simp
      have hub : Upd noB w Wb := by rw [hWb]; exact hu.alloc _
      have hne : ba ≠ W4.heap.size := by have := (Array.getElem?_eq_some_iff.1 qh).1; omega
      have g : IQ w Wb Wb ba W4.heap.size _ 0 (.ok []) := ⟨⟨Upd.refl _ _, ⟨by omega, rfl⟩, none, 0, 0, 0, [], hc, nil_own _ _, Nat.le_refl _, rfl, rfl⟩, hub, hq, hne, hu.size⟩
      clear hq hc hsz hub hWb
      generalize W4.heap.size = bw at g ⊢
      have qa := g.qa
      simp [go_sem, qa]
      refine CallP.mono (g.n (k := 8) (by decide) ok.size_.1 ok.size_.2 (by omega)) ?_
      clear qa g
      rintro v W5 g
      have qa := g.qa
      simp [go_sem, qa, ck]
      refine CallP.mono (g.n (k := 2) (by decide) ok.kind.1 (by have := ok.kind; omega) (by omega)) ?_
      clear qa g
      rintro v W5 g
      have qa := g.qa
      simp [go_sem, qa]
      refine CallP.mono (g.truth (k := 2) (by decide) (by omega)) ?_
      clear qa g
      rintro v W5 g
      simp [go_sem]
      have hput : sayF16.put A = .ok (leB a.size_.toNat 8 ++ (leB a.kind.toNat 2 ++ leB (if a.gone = true then 1 else 0) 2)) := by
        rw [sayF16.put_ok hA rfl, e]
        exact seq_put (D := fun _ => _) (num_put ok.size_.1 ok.size_.2) (seq_put (D := fun _ => _) (most_put ok.kind.1 (by have := ok.kind; omega) hk) (bool2_put a.gone))
      refine CallP.mono g.done ?_
      rintro r W6 ⟨u6, hr⟩
      have hr2 := PutR.base (b' := ba) hr (by have := g.u.size; omega)
      obtain ⟨v6, e6, rfl⟩ := hr.form
      simp [go_sem]
      rw [hput]
      refine ⟨u6, ?_⟩
      simpa [appR] using hr2
    · obtain rfl : x = false := by
        cases x with
        | false => rfl
        | true => exact absurd (hy.1 rfl).2 hk
      simp [go_sem]
      have hp : sayF16.C.put (a.size_, a.kind, a.gone) = .error 2 := seq_putE (num_put ok.size_.1 ok.size_.2) (seq_putF (most_put_no hk))
      rw [sayF16.put_ok hA rfl, e, hp]
      exact ⟨hu, rfl⟩
end Go.Proofs.YtinfdomlpbikaaaGreatDoor
namespace Go.Proofs.YtinfdomlpbikaaaGreatDoor
open Go.Eng Go.Lib
set_option linter.unusedSimpArgs false
set_option linter.unusedVariables false
set_option maxRecDepth 100000
variable {w w0 : World}
/-- as WrE, a further block as it was, and apart from the bytes -/
structure WrZ (wb w : World) (bw n0 : Nat) (T : TypeId) (N : Nat) (res : Except Int (List UInt8)) (bx : Nat) (o : Obj) : Prop where
  u : Upd (fun x => x = bw) wb w
  lt : bw < n0 ∧ n0 = wb.heap.size
  cell : ∃ p n c e l, w.heap[bw]? = some (.cells #[.slice p n c, .int .i64 e] T (0, 0)) ∧ OwnB w n0 (.slice p n c) l ∧ l.length ≤ N ∧ ResOk e l res ∧ (∀ g, (Value.slice p n c).ownBlock = some g → g ≠ bx)
  qx : w.heap[bx]? = some o
  ne : bx ≠ bw
theorem WrZ.toE {wb w : World} {bw n0 N : Nat} {T : TypeId} {res : Except Int (List UInt8)} {bx : Nat} {o : Obj} (h : WrZ wb w bw n0 T N res bx o) : WrE wb w bw n0 T N res := by
  obtain ⟨p, n, c, e, l, h1, h2, h3, h4, _⟩ := h.cell
  exact ⟨h.u, h.lt, p, n, c, e, l, h1, h2, h3, h4⟩
theorem WrE.toZ {wb w w' : World} {bw n0 N : Nat} {T : TypeId} {res : Except Int (List UInt8)} {o : Obj} (h : WrE wb w bw n0 T N res) (u : Upd noB w w') (hx : w'.heap[w.heap.size]? = some o) : WrZ wb w' bw n0 T N res w.heap.size o := by
  obtain ⟨p, n, c, e, l, h1, h2, h3, h4⟩ := h.cell
  have hb := (Array.getElem?_eq_some_iff.1 h1).1
  exact ⟨h.u.trans (u.mono (fun _ _ h => h.elim)), h.lt, ⟨p, n, c, e, l, u.get h1 (fun h => h), own_keep0 h2 u, h3, h4, fun g hg => by have := (h2.lt g hg).2; omega⟩, hx, by omega⟩
theorem infoWZ {wb : World} {bw n0 N bx : Nat} {T : TypeId} {res : Except Int (List UInt8)} {o : Obj} {z : Int} {k : Nat} (J : WrZ wb w bw n0 T N res bx o) (hk : sizeOk k) (h0 : 0 ≤ z) (h1 : z < 256 ^ k) (hl : N ≤ 1099511627776) :
    CallP Tryz.prog 133 #[.pointer (some ⟨bw, 0, none⟩), .int .u64 z, .int .i64 k] w (fun r w' => WrZ wb w' bw n0 T (N + 8) (appR (leB z.toNat k) res) bx o) := by
  obtain ⟨p, n, c, e, l, hc, own, hN, hres, hob⟩ := J.cell
  refine call_den (args := [_, _, _]) Tryz.func133 rfl rfl (by simp [Tryz.ntmps133]) ?_
  simp [go_sem]
  refine CallP.mono (endsPut_z hk h0 h1 w) ?_
  rintro r w1 ⟨x, rfl, u1, own1⟩
  have hc1 := u1.get hc (fun h => h)
  have hx1 := u1.get J.qx (fun h => h)
  have hs := J.u.size
  have hk8 : k ≤ 8 := by unfold sizeOk at hk; omega
  have hbx := (Array.getElem?_eq_some_iff.1 J.qx).1
  have ownk : OwnB w1 n0 (.slice p n c) l := own_keep0 own u1
  obtain ⟨v', w2, hrun, own2, hg2, hat⟩ := sl_append_at slByte ownk own1.at.1 31 (u8_one _) (by rw [leB_len]; omega) (by rw [leB_len]; simp [maxLen]; omega) (by have := J.lt.2; have := u1.size; omega)
  have hobw : ∀ k, (Value.slice p n c).ownBlock = some k → n0 ≤ k := fun k hk => (ownk.lt k hk).1
  have u2 : Upd (fun i => (Value.slice p n c).ownBlock = some i) w1 w2 := (Upd.refl _ _).grown hg2 (fun k hk _ => hk)
  have own2' : OwnB w2 n0 v' (l ++ leB z.toNat k) := by
    unfold OwnB
    rw [List.length_append, List.map_append]
    exact own2
  obtain ⟨p2, n2, c2, rfl⟩ := OwnB.slice own2'
  have hc2 := u2.get hc1 (fun h => by have := hobw _ h; have := J.lt; omega)
  have hx2 := u2.get hx1 (fun h => hob _ h rfl)
  simp [go_sem, hc1, K_append_ok _ _ _ _ hrun, hc2]
  have ub : Upd (fun x => x = bw) w2 (w2.setB bw (.cells #[.slice p2 n2 c2, .int .i64 e] T (0, 0))) := (Upd.refl _ _).setB _ _ (fun _ => rfl)
  refine ⟨((J.u.trans (u1.mono (fun _ _ h => h.elim))).trans' u2 (fun i hi hlt => by have := hobw _ hi; have := J.lt; omega)).trans ub, J.lt, ⟨p2, n2, c2, e, _, by rw [heap_setB, if_pos rfl, hc2]; rfl, own_above own2' ub (fun i h => by subst h; exact J.lt.1), by rw [List.length_append, leB_len]; omega, hres.app, ?_⟩, by rw [heap_setB, if_neg J.ne]; exact hx2, J.ne⟩
  intro g hg
  rcases hat with h | h
  · rw [h] at hg; exact hob g hg
  · rw [h] at hg; injection hg with hg; have := u1.size; omega
def entR (res : Except Int (List UInt8)) (x : EntV) : Except Int (List UInt8) := textR (appR (leB x.size.toNat 8) (appR (leB x.kind.toNat 4) res)) x.name
theorem entR_err {e : Int} : ∀ L : List EntV, L.foldl entR (.error e) = .error e
  | [] => rfl
  | s :: L => entR_err L
structure EntV.ok (x : EntV) : Prop where
  kind : 0 ≤ x.kind ∧ x.kind < 256
  name : x.name.size ≤ 1099511627776
theorem entC_put {x : EntV} (ok : x.ok) (h : entOk x = true) : entC.put (entTo x) = match textPut x.name.data.toList with
    | .error e => .error e
    | .ok b => .ok (leB x.kind.toNat 2 ++ (leB 0 2 ++ (leB x.size.toNat 8 ++ b))) := by
  have h' := of_decide_eq_true h
  cases ht : textPut x.name.data.toList with
  | error e => exact seq_putE (most_put ok.kind.1 (by have := ok.kind; omega) h'.1) (seq_putE zero2_put (seq_putE (most_put h'.2.1 (by omega) h'.2.2) ht))
  | ok b => exact seq_put (D := fun _ => _) (most_put (k := 2) ok.kind.1 (by have := ok.kind; omega) h'.1) (seq_put (D := fun _ => _) zero2_put (seq_put (C := mostC 8 1048576 5) (D := fun _ => textC) (most_put h'.2.1 (by omega) h'.2.2) ht))
theorem ent_fold : ∀ (L : List EntV) (pre : List UInt8), (∀ x ∈ L, x.ok) → (∀ x ∈ L, entOk x = true) → L.foldl entR (.ok pre) = match (listC entC L.length).put (L.map entTo) with
    | .error e => .error e
    | .ok b => .ok (pre ++ b)
  | [], pre, _, _ => by
    show Except.ok pre = Except.ok (pre ++ [])
    rw [List.append_nil]
  | x :: L, pre, h1, h2 => by
    have okx := h1 x (by simp)
    have hp := entC_put okx (h2 x (by simp))
    have e1 : entR (.ok pre) x = match textPut x.name.data.toList with
        | .error e => .error e
        | .ok b => .ok (pre ++ (leB x.kind.toNat 2 ++ (leB 0 2 ++ (leB x.size.toNat 8 ++ b)))) := by
      show textR (.ok ((pre ++ leB x.kind.toNat 4) ++ leB x.size.toNat 8)) x.name = _
      rw [leB_4 _ (by have := okx.kind; omega)]
      unfold textR
      cases ht : textPut x.name.data.toList with
      | error e => rfl
      | ok b => simp only [List.append_assoc]
    have hc : (listC entC (x :: L).length).put ((x :: L).map entTo) = (seqC entC fun _ => listC entC L.length).put (entTo x, L.map entTo) := rfl
    rw [List.foldl_cons, e1, hc]
    cases ht : textPut x.name.data.toList with
    | error e =>
      rw [ht] at hp
      rw [seq_putF hp]
      exact entR_err L
    | ok b =>
      rw [ht] at hp
      have ih := ent_fold L (pre ++ (leB x.kind.toNat 2 ++ (leB 0 2 ++ (leB x.size.toNat 8 ++ b)))) (fun y hy => h1 y (by simp [hy])) (fun y hy => h2 y (by simp [hy]))
      show L.foldl entR (.ok (pre ++ _)) = _
      rw [ih]
      cases hl : (listC entC L.length).put (L.map entTo) with
      | error e => rw [seq_putE hp hl]
      | ok c =>
        rw [seq_put (D := fun _ => listC entC L.length) hp hl]
        simp only [List.append_assoc]
def ElI (w wb : World) (ba bw : Nat) (a : SayV) (L : List EntV) (res : Except Int (List UInt8)) (N : Nat) (m : Nat) (ρ : Env) (W : World) : Prop :=
  ∃ i : Nat, m = L.length - i ∧ i ≤ L.length ∧ ρ 3 = .pointer (some ⟨ba, 0, none⟩) ∧ ρ 6 = .pointer (some ⟨bw, 0, none⟩) ∧ ρ 53 = .slice a.entries.p a.entries.n a.entries.cap ∧ ρ 54 = .int .i64 L.length ∧ ρ 55 = .int .i64 i ∧ IQ w wb W ba bw (.cells a.cells 39 (0, 0)) (N + 536 * i) ((L.take i).foldl entR res)
set_option maxHeartbeats 4000000 in
theorem infoPutSay14 {a : SayV} {A : SayS} (ha : SayAt w a A) (ok : a.ok) (oke : ∀ x ∈ A.ent, x.ok) (hT : Tabs w) : CallP Tryz.prog 90 #[.int .u16 14, .agg a.cells] w (fun r w' => Upd noB w w' ∧ PutR w' w.heap.size r (sayF14.put A)) := by
  have hel := ha.el
  have hnl : a.entries.n = A.ent.length := ha.nums.2
  have hS : SameIS (SayV.mk zeroS.dialect zeroS.size_ zeroS.challenge zeroS.level zeroS.durable zeroS.made zeroS.file zeroS.kind zeroS.data zeroS.n a.entries a.more zeroS.gone) a ↔ ({ zeroSS with f := { zeroS with more := a.more }, ent := A.ent } : SayS) = A := same_iffIS ha rfl ⟨rfl, rfl⟩ (Or.inr ⟨rfl, rfl⟩)
  have hmap : (A.ent.map entTo).map entOf = A.ent := by
    rw [List.map_map]
    conv => rhs; rw [← List.map_id A.ent]
    rfl
  have hmk : sayF14.mkS (sayF14.unS A) = ({ zeroSS with f := { zeroS with more := a.more }, ent := A.ent } : SayS) := by
    show ({ zeroSS with ent := (A.ent.map entTo).map entOf, f := { zeroS with more := A.f.more } } : SayS) = _
    rw [hmap, ha.f]
    rfl
  rw [← hmk] at hS
  refine call_den (args := [_, _]) Tryz.func90 rfl rfl (by simp [Tryz.ntmps90]) ?_
  simp [go_sem]
  refine gen_draw ?_
  intro W hW
  have hu : Upd noB w W := by rw [hW]; exact (by repeat (first | exact Upd.refl _ _ | refine Upd.alloc ?_ _ | refine Upd.drew ?_ | refine Upd.drewN ?_ _ | refine Upd.setB ?_ _ _ (fun h => absurd h (by omega))))
  have qa : SayS0 w.heap.size a W := by unfold SayS0; rw [hW, heap_alloc, if_pos rfl]
  clear hW
  generalize hba : w.heap.size = ba at qa ⊢
  refine Go.Eng.Ch.draw_script [.pure 0, .one 1, .one 2, .pure 3, .pure 4, .one 5, .one 6, .pure 7, .pure 8, .chain [9, 11] [10], .one 12, .one 13, .one 14, .pure 15, .one 16, .one 17, .one 18, .one 19, .pure 20] (by kernel_rfl) (by kernel_rfl) (by kernel_rfl) ?_
  simp [go_sem]
  replace hu := hu.drew
  have qa' : SayS0 ba a W.drew := qa
  refine CallP.mono (infoKnown_any _ _) ?_
  rintro v W1 ⟨rfl, hW1⟩
  replace hu : Upd noB w W1 := by rw [hW1]; exact hu
  replace qa : SayS0 ba a W1 := by rw [hW1]; exact qa'
  clear hW1 qa'
  simp [go_sem, known10]
  haveI : Nonempty { W : World // SayS0 ba a W } := ⟨⟨W1, qa⟩⟩
  have ql := Q_load_fix (P := Tryz.prog) (W := fun i : { W : World // SayS0 ba a W } => i.1) (fun i => i.2.load)
  refine Go.Eng.Ch.opsPh_chain _ _ (SayS0 ba a) qa ?_
  simp [go_sem, ql]
  refine CallP.mono (infoSaid14 a _) ?_
  rintro v W2 ⟨rfl, u2⟩
  replace hu := hu.trans u2
  replace qa : SayS0 ba a W2 := u2.get qa (fun h => h)
  simp [go_sem, Go.Eng.Ch.contJ_app qa]
  refine CallP.mono (infoSameSay_any (⟨Nat.zero_le _, ha.lens.2⟩) ha.lens) ?_
  rintro v W3 ⟨x, rfl, hx, u3⟩
  replace hx := hx.trans hS
  replace hu := hu.trans u3
  replace qa : SayS0 ba a W3 := u3.get qa (fun h => h)
  have qh : W3.heap[ba]? = some (.cells a.cells 39 (0, 0)) := qa
  clear u2 u3
  cases x with
  | false =>
    have hA : ¬ sayF14.mkS (sayF14.unS A) = A := fun h => by have := hx.2 h; cases this
    simp [go_sem, Go.Eng.Ch.contJ_app qa]
    rw [sayF14.put_no hA]
    exact ⟨hu, rfl⟩
  | true =>
    have hA := hx.1 rfl
    have hk : a.kind = 0 := show a.bare.kind = 0 by rw [← ha.f, ← hA]; rfl
    simp [go_sem, Go.Eng.Ch.contJ_app qa, qh]
    refine CallP.mono (infoMay_any (ha.keep hu)) ?_
    rintro v W4 ⟨x, rfl, hy, u4⟩
    replace hu := hu.trans u4
    replace qh := u4.get qh (fun h => h)
    clear u4 qa
    cases x with
    | false =>
      have hno : ¬ A.ent.all entOk = true := fun h => by have := hy.2 ⟨h, by omega⟩; cases this
      simp [go_sem]
      rw [sayF14.put_pre hA (by show ¬ (if A.ent.all entOk = true then _ else _) = _; rw [if_neg hno]; decide)]
      show _ ∧ PutR _ _ _ (.error (if A.ent.all entOk = true then _ else _))
      rw [if_neg hno]
      exact ⟨hu, rfl⟩
    | true =>
      have hall := (hy.1 rfl).1
      by_cases hlim : 64 < A.ent.length
      · have hlim' : 64 < (a.entries.n : Int) := by omega
        have hlim2 : 64 < a.entries.n := by omega
        have hpre : sayF14.pre A = 3 := by show (if A.ent.all entOk = true then (if _ then _ else _) else _) = _; rw [if_pos hall, if_pos hlim]
        simp [go_sem, qh, hlim', hlim2]
        rw [sayF14.put_pre hA (by rw [hpre]; decide), hpre]
        exact ⟨hu, rfl⟩
      · have hlim' : ¬ 64 < (a.entries.n : Int) := by omega
        have hlim2 : ¬ 64 < a.entries.n := by omega
        have hpre : sayF14.pre A = 0 := by show (if A.ent.all entOk = true then (if _ then _ else _) else _) = _; rw [if_pos hall, if_neg hlim]
        have cn : IntKind.u64.wrap (a.entries.n : Int) = a.entries.n := wrap64 (by omega) (by omega)
        simp [go_sem, qh, hlim', hlim2]
        refine gen_load ?_
        intro Wb hWb
        have hq : Wb.heap[ba]? = some (.cells a.cells 39 (0, 0)) := by rw [hWb, heap_alloc, if_neg (by have := (Array.getElem?_eq_some_iff.1 qh).1; omega)]; exact qh
        have hc : Wb.heap[W4.heap.size]? = some (.cells #[.slice none 0 0, .int .i64 0] 148 (0, 0)) := by rw [hWb, heap_alloc, if_pos rfl]
        have hsz : Wb.heap.size = W4.heap.size + 1 := by rw [hWb]; simp
        have hub : Upd noB w Wb := by rw [hWb]; exact hu.alloc _
        have hne : ba ≠ W4.heap.size := by have := (Array.getElem?_eq_some_iff.1 qh).1; omega
        have g : IQ w Wb Wb ba W4.heap.size _ 0 (.ok []) := ⟨⟨Upd.refl _ _, ⟨by omega, rfl⟩, none, 0, 0, 0, [], hc, nil_own _ _, Nat.le_refl _, rfl, rfl⟩, hub, hq, hne, hu.size⟩
        clear hq hc hsz hub hWb
        generalize W4.heap.size = bw at g ⊢
        have qa := g.qa
        simp [go_sem, qa, cn]
        refine CallP.mono (g.n (k := 2) (by decide) (show (0 : Int) ≤ (a.entries.n : Int) by omega) (show (a.entries.n : Int) < 256 ^ 2 by omega) (by omega)) ?_
        clear qa g
        rintro v W5 g
        have qa := g.qa
        simp [go_sem, qa]
        refine CallP.mono (g.truth (k := 2) (by decide) (by omega)) ?_
        clear qa g
        rintro v W5 g
        have qa := g.qa
        simp [go_sem, qa]
        obtain ⟨res, hres⟩ : ∃ res, res = appR (leB (if a.more = true then 1 else 0) 2) (appR (leB ((a.entries.n : Int)).toNat 2) (.ok [])) := ⟨_, rfl⟩
        rw [← hres] at g
        refine den_loop (ElI w Wb ba bw a A.ent res 16) A.ent.length ?_ ?_
        · exact ⟨0, rfl, by omega, by simp [go_sem], by simp [go_sem], by simp [go_sem], by simp [go_sem, hnl], by simp [go_sem], g⟩
        clear qa g qh
        rintro m ρ W6 ⟨i, rfl, hi, g3, g6, g53, g54, g55, g⟩
        have qa := g.qa
        by_cases hlt : i < A.ent.length
        · have hlt' : (i : Int) < A.ent.length := by omega
          have hwr : IntKind.i64.wrap ((i : Int) + 1) = ((i + 1 : Nat) : Int) := wrap64_id (by omega) (by omega)
          obtain ⟨q, hidx, hK⟩ := ent_load (ha.keep g.all).ent i hlt
          obtain ⟨y, hy⟩ : ∃ y, y = A.ent[i] := ⟨_, rfl⟩
          rw [← hy] at hK
          have oky := oke y (by rw [hy]; exact List.getElem_mem hlt)
          have hey := of_decide_eq_true (List.all_eq_true.1 hall y (by rw [hy]; exact List.getElem_mem hlt))
          have ck : IntKind.u64.wrap y.kind = y.kind := wrap64 oky.kind.1 (by have := oky.kind; omega)
          have cs : IntKind.u64.wrap y.size = y.size := wrap64 hey.2.1 (by omega)
          simp [go_sem, g3, g6, g53, g54, g55, hlt', hlt, hidx, hK, EntV.row, ck]
          refine gen_call ?_
          intro W7 hW
          have u7 : Upd noB W6 W7 := by rw [hW]; exact ((Upd.refl _ _).alloc _).setB _ _ (fun h => absurd h (by omega))
          have hx7 : W7.heap[W6.heap.size]? = some (.cells #[.string y.name, .int .u8 y.kind, .int .i64 y.size] 114 (0, 0)) := by rw [hW, heap_setB, if_pos rfl, heap_alloc, if_pos rfl]; rfl
          clear hW
          have J := g.I.toZ u7 hx7
          generalize W6.heap.size = bx at J hx7 ⊢
          refine CallP.mono (infoWZ J (k := 4) (by decide) oky.kind.1 (by have := oky.kind; omega) (by omega)) ?_
          clear J hx7
          rintro v W8 J
          have hx8 := J.qx
          simp [go_sem, g3, g6, g53, g54, g55, hx8, cs]
          refine CallP.mono (infoWZ J (k := 8) (by decide) hey.2.1 (by omega) (by omega)) ?_
          clear J hx8
          rintro v W9 J
          have hx9 := J.qx
          have g9 : IQ w Wb W9 ba bw _ _ _ := ⟨J.toE, g.u, g.q, g.ne⟩
          have hbs : ∀ (k : Value → World → Prop), K_buildSlice Tryz.prog 117 1 #[(0, .string y.name)] W9 k = k (.slice (some ⟨W9.heap.size, 0, none⟩) 1 1) (W9.alloc (.cells (([y.name] : List ByteArray).map strV).toArray 9)) := fun k => slStr.buildN (P := Tryz.prog) (w := W9) 1 #[(0, .string y.name)] rfl (by simp [Value.cells]) (by decide) (by decide) k
          simp [go_sem, g3, g6, g53, g54, g55, hx9, hbs]
          refine CallP.mono (g9.texts (L := [y.name]) hT (by omega) (by simp) (by intro s hs'; simp at hs'; rw [hs']; exact oky.name) rfl) ?_
          clear J hx9 g9 hbs
          rintro v W10 g10
          simp [go_sem, g3, g6, g53, g54, g55, hwr]
          refine ⟨A.ent.length - (i + 1), by omega, i + 1, rfl, by omega, by simp [go_sem, g3], by simp [go_sem, g6], by simp [go_sem, g53], by simp [go_sem, g54], by simp [go_sem], ?_⟩
          have e : (A.ent.take (i + 1)).foldl entR res = [y.name].foldl textR (appR (leB y.size.toNat 8) (appR (leB y.kind.toNat 4) ((A.ent.take i).foldl entR res))) := by
            rw [List.take_succ_eq_append_getElem hlt, List.foldl_append, ← hy]; rfl
          rw [e]
          have eN : 16 + 536 * (i + 1) = 16 + 536 * i + 8 + 8 + 520 * ([y.name] : List ByteArray).length := by simp; omega
          rw [eN]
          exact g10
        · obtain rfl : i = A.ent.length := by omega
          rw [List.take_length] at g
          simp [go_sem, g3, g6, g53, g54, g55]
          have hput : sayF14.put A = A.ent.foldl entR res := by
            rw [sayF14.put_ok hA hpre]
            have e : sayF14.unS A = ((A.ent.length : Int), a.more, A.ent.map entTo) := by unfold sayF14; simp only [ha.f]; rfl
            rw [e, hres]
            have en : ((a.entries.n : Int)).toNat = A.ent.length := by omega
            rw [en]
            show (seqC (mostC 2 64 3) fun n => seqC (boolC 2) fun _ => listC entC n.toNat).put ((A.ent.length : Int), a.more, A.ent.map entTo) = A.ent.foldl entR (.ok (([] ++ leB A.ent.length 2) ++ leB (if a.more = true then 1 else 0) 2))
            rw [ent_fold _ _ oke (List.all_eq_true.1 hall)]
            have hm := most_put (k := 2) (m := 64) (e := 3) (x := (A.ent.length : Int)) (by omega) (by omega) (by omega)
            cases hl : (listC entC A.ent.length).put (A.ent.map entTo) with
            | error z => simp only [seqC, hm, bool2_put, Int.toNat_natCast, hl]
            | ok b => simp only [seqC, hm, bool2_put, Int.toNat_natCast, hl, List.nil_append, List.append_assoc]
          refine CallP.mono g.done ?_
          rintro r W7 ⟨u7, hr⟩
          have hr2 := PutR.base (b' := ba) hr (by have := g.u.size; omega)
          obtain ⟨v7, e7, rfl⟩ := hr.form
          simp [go_sem]
          rw [hput]
          exact ⟨u7, hr2⟩
end Go.Proofs.YtinfdomlpbikaaaGreatDoor
namespace Go.Proofs.YtinfdomlpbikaaaGreatDoor
open Go.Eng Go.Lib
set_option linter.unusedSimpArgs false
set_option linter.unusedVariables false
set_option maxRecDepth 100000
variable {w w0 : World}
/-- what may stand in what is asked, and in what is said -/
structure AskG (a : AskV) (A : AskS) : Prop where
  ok : a.ok
  st : a.strs
  dia : ∀ x ∈ A.dia, 0 ≤ x ∧ x < 65536
  lok : ∀ x ∈ A.lok, LockV.ok x
structure SayG (a : SayV) (A : SayS) : Prop where
  ok : a.ok
  ent : ∀ x ∈ A.ent, EntV.ok x
noncomputable def askPut (c : Int) (A : AskS) : Except Int (List UInt8) := match askF c with
  | some F => F.put A
  | none => .error 2
noncomputable def sayPut (c : Int) (A : SayS) : Except Int (List UInt8) := match sayF c with
  | some F => F.put A
  | none => .error 2
theorem talkPutAsk_any {c : Int} {a : AskV} {A : AskS} (h0 : 0 ≤ c) (hk : known8 c = true) (ha : AskAt w a A) (g : AskG a A) (hT : Tabs w) : CallP Tryz.prog 92 #[.int .u16 c, .agg a.cells] w (fun r w' => Upd noB w w' ∧ PutR w' w.heap.size r (askPut c A)) := by
  have hc := of_decide_eq_true hk
  have hc2 : c = 0 ∨ c = 1 ∨ c = 2 ∨ c = 3 ∨ c = 4 ∨ c = 13 := by omega
  rcases hc2 with rfl | rfl | rfl | rfl | rfl | rfl
  · have e : askPut 0 A = askF0.put A := by simp [askPut, askF]
    rw [e]
    exact talkPutAsk0 ha g.ok g.dia
  · have e : askPut 1 A = askF1.put A := by simp [askPut, askF]
    rw [e]
    exact talkPutAsk1 ha g.ok g.st.user hT
  · have e : askPut 2 A = askFz.put A := by simp [askPut, askF]
    rw [e]
    exact talkPutAsk2 ha g.ok
  · have e : askPut 3 A = askF3.put A := by simp [askPut, askF]
    rw [e]
    exact talkPutAsk3 ha g.ok g.st.share hT
  · have e : askPut 4 A = askFz.put A := by simp [askPut, askF]
    rw [e]
    exact talkPutAsk4 ha g.ok
  · have e : askPut 13 A = askFz.put A := by simp [askPut, askF]
    rw [e]
    exact talkPutAsk13 ha g.ok
theorem filePutAsk_any {c : Int} {a : AskV} {A : AskS} (h0 : 0 ≤ c) (hk : known9 c = true) (ha : AskAt w a A) (g : AskG a A) (hT : Tabs w) : CallP Tryz.prog 84 #[.int .u16 c, .agg a.cells] w (fun r w' => Upd noB w w' ∧ PutR w' w.heap.size r (askPut c A)) := by
  have hc := of_decide_eq_true hk
  have hc2 : c = 5 ∨ c = 6 ∨ c = 7 ∨ c = 8 ∨ c = 9 ∨ c = 10 := by omega
  rcases hc2 with rfl | rfl | rfl | rfl | rfl | rfl
  · have e : askPut 5 A = askF5.put A := by simp [askPut, askF]
    rw [e]
    exact filePutAsk5 ha g.ok g.st.name hT
  · have e : askPut 6 A = askFf.put A := by simp [askPut, askF]
    rw [e]
    exact filePutAsk6 ha g.ok
  · have e : askPut 7 A = askFf.put A := by simp [askPut, askF]
    rw [e]
    exact filePutAsk7 ha g.ok
  · have e : askPut 8 A = askF8.put A := by simp [askPut, askF]
    rw [e]
    exact filePutAsk8 ha g.ok
  · have e : askPut 9 A = askF9.put A := by simp [askPut, askF]
    rw [e]
    exact filePutAsk9 ha g.ok
  · have e : askPut 10 A = askF10.put A := by simp [askPut, askF]
    rw [e]
    exact filePutAsk10 ha g.ok g.lok
theorem infoPutAsk_any {c : Int} {a : AskV} {A : AskS} (h0 : 0 ≤ c) (hk : known10 c = true) (ha : AskAt w a A) (g : AskG a A) (hT : Tabs w) : CallP Tryz.prog 88 #[.int .u16 c, .agg a.cells] w (fun r w' => Upd noB w w' ∧ PutR w' w.heap.size r (askPut c A)) := by
  have hc := of_decide_eq_true hk
  have hc2 : c = 12 ∨ c = 14 ∨ c = 16 ∨ c = 17 ∨ c = 18 := by omega
  rcases hc2 with rfl | rfl | rfl | rfl | rfl
  · have e : askPut 12 A = askFz.put A := by simp [askPut, askF]
    rw [e]
    exact infoPutAsk12 ha g.ok
  · have e : askPut 14 A = askF14.put A := by simp [askPut, askF]
    rw [e]
    exact infoPutAsk14 ha g.ok g.st.pattern g.st.after hT
  · have e : askPut 16 A = askFf.put A := by simp [askPut, askF]
    rw [e]
    exact infoPutAsk16 ha g.ok
  · have e : askPut 17 A = askF17.put A := by simp [askPut, askF]
    rw [e]
    exact infoPutAsk17 ha g.ok g.st.name hT
  · have e : askPut 18 A = askF18.put A := by simp [askPut, askF]
    rw [e]
    exact infoPutAsk18 ha g.ok
theorem talkPutSay_any {c : Int} {a : SayV} {A : SayS} (h0 : 0 ≤ c) (hk : known8 c = true) (ha : SayAt w a A) (g : SayG a A) (hT : Tabs w) : CallP Tryz.prog 94 #[.int .u16 c, .agg a.cells] w (fun r w' => Upd noB w w' ∧ PutR w' w.heap.size r (sayPut c A)) := by
  have hc := of_decide_eq_true hk
  have hc2 : c = 0 ∨ c = 1 ∨ c = 2 ∨ c = 3 ∨ c = 4 ∨ c = 13 := by omega
  rcases hc2 with rfl | rfl | rfl | rfl | rfl | rfl
  · have e : sayPut 0 A = sayF0.put A := by simp [sayPut, sayF]
    rw [e]
    exact talkPutSay0 ha g.ok
  · have e : sayPut 1 A = sayFz.put A := by simp [sayPut, sayF]
    rw [e]
    exact talkPutSay1 ha g.ok
  · have e : sayPut 2 A = sayFz.put A := by simp [sayPut, sayF]
    rw [e]
    exact talkPutSay2 ha g.ok
  · have e : sayPut 3 A = sayFz.put A := by simp [sayPut, sayF]
    rw [e]
    exact talkPutSay3 ha g.ok
  · have e : sayPut 4 A = sayFz.put A := by simp [sayPut, sayF]
    rw [e]
    exact talkPutSay4 ha g.ok
  · have e : sayPut 13 A = sayFz.put A := by simp [sayPut, sayF]
    rw [e]
    exact talkPutSay13 ha g.ok
theorem filePutSay_any {c : Int} {a : SayV} {A : SayS} (h0 : 0 ≤ c) (hk : known9 c = true) (ha : SayAt w a A) (g : SayG a A) (hT : Tabs w) : CallP Tryz.prog 86 #[.int .u16 c, .agg a.cells] w (fun r w' => Upd noB w w' ∧ PutR w' w.heap.size r (sayPut c A)) := by
  have hc := of_decide_eq_true hk
  have hc2 : c = 5 ∨ c = 6 ∨ c = 7 ∨ c = 8 ∨ c = 9 ∨ c = 10 := by omega
  rcases hc2 with rfl | rfl | rfl | rfl | rfl | rfl
  · have e : sayPut 5 A = sayF5.put A := by simp [sayPut, sayF]
    rw [e]
    exact filePutSay5 ha g.ok
  · have e : sayPut 6 A = sayFz.put A := by simp [sayPut, sayF]
    rw [e]
    exact filePutSay6 ha g.ok
  · have e : sayPut 7 A = sayFz.put A := by simp [sayPut, sayF]
    rw [e]
    exact filePutSay7 ha g.ok
  · have e : sayPut 8 A = sayF8.put A := by simp [sayPut, sayF]
    rw [e]
    exact filePutSay8 ha g.ok
  · have e : sayPut 9 A = sayF9.put A := by simp [sayPut, sayF]
    rw [e]
    exact filePutSay9 ha g.ok
  · have e : sayPut 10 A = sayFz.put A := by simp [sayPut, sayF]
    rw [e]
    exact filePutSay10 ha g.ok
theorem infoPutSay_any {c : Int} {a : SayV} {A : SayS} (h0 : 0 ≤ c) (hk : known10 c = true) (ha : SayAt w a A) (g : SayG a A) (hT : Tabs w) : CallP Tryz.prog 90 #[.int .u16 c, .agg a.cells] w (fun r w' => Upd noB w w' ∧ PutR w' w.heap.size r (sayPut c A)) := by
  have hc := of_decide_eq_true hk
  have hc2 : c = 12 ∨ c = 14 ∨ c = 16 ∨ c = 17 ∨ c = 18 := by omega
  rcases hc2 with rfl | rfl | rfl | rfl | rfl
  · have e : sayPut 12 A = .error 2 := by simp [sayPut, sayF]
    rw [e]
    exact infoPutSay12 (A := A)
  · have e : sayPut 14 A = sayF14.put A := by simp [sayPut, sayF]
    rw [e]
    exact infoPutSay14 ha g.ok g.ent hT
  · have e : sayPut 16 A = sayF16.put A := by simp [sayPut, sayF]
    rw [e]
    exact infoPutSay16 ha g.ok
  · have e : sayPut 17 A = sayFz.put A := by simp [sayPut, sayF]
    rw [e]
    exact infoPutSay17 ha g.ok
  · have e : sayPut 18 A = sayF18.put A := by simp [sayPut, sayF]
    rw [e]
    exact infoPutSay18 ha g.ok
theorem bodyPut_fault {m : MsgS} (h1 : hasF m.head.flags 1) (h2 : ¬ m.head.status = 0) : bodyPut m = .ok [0, 0, 0, 0] := by unfold bodyPut; rw [if_pos h1, if_pos h2]
theorem bodyPut_say {m : MsgS} (h1 : hasF m.head.flags 1) (h2 : m.head.status = 0) : bodyPut m = sayPut m.head.command m.say := by unfold bodyPut; rw [if_pos h1, if_neg (by simpa using h2)]; rfl
theorem bodyPut_ask {m : MsgS} (h1 : ¬ hasF m.head.flags 1) : bodyPut m = askPut m.head.command m.ask := by unfold bodyPut; rw [if_neg h1]; rfl
set_option maxHeartbeats 8000000 in
theorem body_any {b : Nat} {m : MsgV} {M : MsgS} (hm : MsgAt w b m) (hM : MsgAtR w m M) (ok : m.head.ok) (hk : knownL m.head.command = true) (ga : AskG m.ask M.ask) (gs : SayG m.say M.say) (hT : Tabs w) :
    CallP Tryz.prog 38 #[.pointer (some ⟨b, 0, none⟩)] w (fun r w' => Upd noB w w' ∧ PutR w' w.heap.size r (bodyPut M)) := by
  have hf := ok.flags
  have h0 := ok.command.1
  have hm' := hm
  unfold MsgAt at hm'
  refine call_den (args := [_]) Tryz.func38 rfl rfl (by simp [Tryz.ntmps38]) ?_
  simp [go_sem, hm']
  refine CallP.mono (by_any h0 hk _) ?_
  rintro r W ⟨rfl, u1⟩
  simp [go_sem]
  refine gen_call ?_
  intro W1 hW1
  have hu : Upd noB w W1 := by rw [hW1]; exact (u1.alloc _).setB _ _ (fun h => absurd h (by have := u1.size; omega))
  have hx : W1.heap[W.heap.size]? = some (.cells (codecOf m.head.command) 92 (0, 0)) := by
    rw [hW1, heap_setB, if_pos rfl, heap_alloc, if_pos rfl]; rfl
  obtain ⟨bx, hbx⟩ : ∃ bx, bx = W.heap.size := ⟨_, rfl⟩
  rw [← hbx] at hx ⊢
  have hm1 : MsgAt W1 b m := hu.get hm (by simp [noB])
  clear hW1 u1 hbx
  have hud : Upd noB w W1.drew := hu.drew
  have hm1' := hm1
  unfold MsgAt at hm1'
  refine CallP.mono (msgFault_any hm1 hf) ?_
  rintro r W2 ⟨rfl, hW2⟩
  rw [hW2]; clear hW2; clear W2
  by_cases hrep : hasF m.head.flags 1
  · by_cases hst : m.head.status = 0
    · simp [go_sem, hrep, hst]
      rw [bodyPut_say (by rw [hM.head]; exact hrep) (by rw [hM.head]; exact hst), hM.head]
      refine CallP.mono (msgReply_any hm1 hf) ?_
      rintro r W2 ⟨rfl, hW2⟩
      rw [hW2]; clear hW2; clear W2
      have ls : ∀ _ : Unit, (Instr.loadAt 39 (.pointer (some ⟨b, 95, none⟩))).run Tryz.prog W1.drew = .ok (.agg m.say.cells) W1.drew := fun _ => loadAt_cut (Tryz.isAgg39 _) (Tryz.sizeOf39 _) (by rw [show W1.drew.heap[b]? = _ from hm1']; exact msg_cut2 m _ _)
      simp [go_sem, hrep]
      rcases known_cases h0 hk with k8 | ⟨k8, k9⟩ | ⟨k8, k9, k10⟩
      · skip
        have hx' : W1.heap[bx]? = some (.cells codecT 92 (0, 0)) := by rw [hx, codec_k8 h0 k8]
        have hx2 : W1.drew.heap[bx]? = some (.cells #[.func (.func 92) #[] #[], .func (.func 93) #[] #[], .func (.func 94) #[] #[], .func (.func 95) #[] #[]] 92 (0, 0)) := hx'
        refine draw_script [.pure 0, .pure 2, .pure 7, .still [1, 3, 4, 5, 6, 8, 9, 10], .one 11, .still [12, 13], .pure 14, .pure 15] (by kernel_rfl) (by kernel_rfl) (by kernel_rfl) ?_
        simp [go_sem, hx', hm1', codecT, codecF, codecI, Q_load_fix (W := fun _ : Unit => W1.drew) ls]
        refine CallP.mono (talkPutSay_any h0 k8 (hM.say.keep hud) gs (hT.keep0 hud)) ?_
        rintro r W3 ⟨u3, hr⟩
        have hr2 := PutR.base (b' := w.heap.size) hr hud.size
        obtain ⟨v3, e3, rfl⟩ := hr.form
        simp [go_sem]
        exact ⟨hud.trans u3, hr2⟩
      · skip
        have hx' : W1.heap[bx]? = some (.cells codecF 92 (0, 0)) := by rw [hx, codec_k9 h0 k9]
        have hx2 : W1.drew.heap[bx]? = some (.cells #[.func (.func 84) #[] #[], .func (.func 85) #[] #[], .func (.func 86) #[] #[], .func (.func 87) #[] #[]] 92 (0, 0)) := hx'
        refine draw_script [.pure 0, .pure 2, .pure 7, .still [1, 3, 4, 5, 6, 8, 9, 10], .one 11, .still [12, 13], .pure 14, .pure 15] (by kernel_rfl) (by kernel_rfl) (by kernel_rfl) ?_
        simp [go_sem, hx', hm1', codecT, codecF, codecI, Q_load_fix (W := fun _ : Unit => W1.drew) ls]
        refine CallP.mono (filePutSay_any h0 k9 (hM.say.keep hud) gs (hT.keep0 hud)) ?_
        rintro r W3 ⟨u3, hr⟩
        have hr2 := PutR.base (b' := w.heap.size) hr hud.size
        obtain ⟨v3, e3, rfl⟩ := hr.form
        simp [go_sem]
        exact ⟨hud.trans u3, hr2⟩
      · skip
        have hx' : W1.heap[bx]? = some (.cells codecI 92 (0, 0)) := by rw [hx, codec_k10 h0 k10]
        have hx2 : W1.drew.heap[bx]? = some (.cells #[.func (.func 88) #[] #[], .func (.func 89) #[] #[], .func (.func 90) #[] #[], .func (.func 91) #[] #[]] 92 (0, 0)) := hx'
        refine draw_script [.pure 0, .pure 2, .pure 7, .still [1, 3, 4, 5, 6, 8, 9, 10], .one 11, .still [12, 13], .pure 14, .pure 15] (by kernel_rfl) (by kernel_rfl) (by kernel_rfl) ?_
        simp [go_sem, hx', hm1', codecT, codecF, codecI, Q_load_fix (W := fun _ : Unit => W1.drew) ls]
        refine CallP.mono (infoPutSay_any h0 k10 (hM.say.keep hud) gs (hT.keep0 hud)) ?_
        rintro r W3 ⟨u3, hr⟩
        have hr2 := PutR.base (b' := w.heap.size) hr hud.size
        obtain ⟨v3, e3, rfl⟩ := hr.form
        simp [go_sem]
        exact ⟨hud.trans u3, hr2⟩
    · simp [go_sem, hrep, hst, make4]
      rw [bodyPut_fault (by rw [hM.head]; exact hrep) (by rw [hM.head]; exact hst)]
      exact ⟨hu.alloc _, _, rfl, own_base (own4 W1) hu.size⟩
  · simp [go_sem, hrep]
    rw [bodyPut_ask (by rw [hM.head]; exact hrep), hM.head]
    refine CallP.mono (msgReply_any hm1 hf) ?_
    rintro r W2 ⟨rfl, hW2⟩
    rw [hW2]; clear hW2; clear W2
    have ls : ∀ _ : Unit, (Instr.loadAt 34 (.pointer (some ⟨b, 26, none⟩))).run Tryz.prog W1.drew = .ok (.agg m.ask.cells) W1.drew := fun _ => loadAt_cut (Tryz.isAgg34 _) (Tryz.sizeOf34 _) (by rw [show W1.drew.heap[b]? = _ from hm1']; exact msg_cut1 m _ _)
    simp [go_sem, hrep]
    rcases known_cases h0 hk with k8 | ⟨k8, k9⟩ | ⟨k8, k9, k10⟩
    · skip
      have hx' : W1.heap[bx]? = some (.cells codecT 92 (0, 0)) := by rw [hx, codec_k8 h0 k8]
      have hx2 : W1.drew.heap[bx]? = some (.cells #[.func (.func 92) #[] #[], .func (.func 93) #[] #[], .func (.func 94) #[] #[], .func (.func 95) #[] #[]] 92 (0, 0)) := hx'
      refine draw_script [.pure 0, .pure 2, .pure 7, .still [1, 3, 4, 5, 6, 8, 9, 10], .one 11, .still [12, 13], .pure 14, .pure 15] (by kernel_rfl) (by kernel_rfl) (by kernel_rfl) ?_
      simp [go_sem, hx', hm1', codecT, codecF, codecI, Q_load_fix (W := fun _ : Unit => W1.drew) ls]
      refine CallP.mono (talkPutAsk_any h0 k8 (hM.ask.keep hud) ga (hT.keep0 hud)) ?_
      rintro r W3 ⟨u3, hr⟩
      have hr2 := PutR.base (b' := w.heap.size) hr hud.size
      obtain ⟨v3, e3, rfl⟩ := hr.form
      simp [go_sem]
      exact ⟨hud.trans u3, hr2⟩
    · skip
      have hx' : W1.heap[bx]? = some (.cells codecF 92 (0, 0)) := by rw [hx, codec_k9 h0 k9]
      have hx2 : W1.drew.heap[bx]? = some (.cells #[.func (.func 84) #[] #[], .func (.func 85) #[] #[], .func (.func 86) #[] #[], .func (.func 87) #[] #[]] 92 (0, 0)) := hx'
      refine draw_script [.pure 0, .pure 2, .pure 7, .still [1, 3, 4, 5, 6, 8, 9, 10], .one 11, .still [12, 13], .pure 14, .pure 15] (by kernel_rfl) (by kernel_rfl) (by kernel_rfl) ?_
      simp [go_sem, hx', hm1', codecT, codecF, codecI, Q_load_fix (W := fun _ : Unit => W1.drew) ls]
      refine CallP.mono (filePutAsk_any h0 k9 (hM.ask.keep hud) ga (hT.keep0 hud)) ?_
      rintro r W3 ⟨u3, hr⟩
      have hr2 := PutR.base (b' := w.heap.size) hr hud.size
      obtain ⟨v3, e3, rfl⟩ := hr.form
      simp [go_sem]
      exact ⟨hud.trans u3, hr2⟩
    · skip
      have hx' : W1.heap[bx]? = some (.cells codecI 92 (0, 0)) := by rw [hx, codec_k10 h0 k10]
      have hx2 : W1.drew.heap[bx]? = some (.cells #[.func (.func 88) #[] #[], .func (.func 89) #[] #[], .func (.func 90) #[] #[], .func (.func 91) #[] #[]] 92 (0, 0)) := hx'
      refine draw_script [.pure 0, .pure 2, .pure 7, .still [1, 3, 4, 5, 6, 8, 9, 10], .one 11, .still [12, 13], .pure 14, .pure 15] (by kernel_rfl) (by kernel_rfl) (by kernel_rfl) ?_
      simp [go_sem, hx', hm1', codecT, codecF, codecI, Q_load_fix (W := fun _ : Unit => W1.drew) ls]
      refine CallP.mono (infoPutAsk_any h0 k10 (hM.ask.keep hud) ga (hT.keep0 hud)) ?_
      rintro r W3 ⟨u3, hr⟩
      have hr2 := PutR.base (b' := w.heap.size) hr hud.size
      obtain ⟨v3, e3, rfl⟩ := hr.form
      simp [go_sem]
      exact ⟨hud.trans u3, hr2⟩
end Go.Proofs.YtinfdomlpbikaaaGreatDoor
namespace Go.Proofs.YtinfdomlpbikaaaGreatDoor
open Go Go.Eng Go.ChangeShapes Go.WideShapes Go.RowKit
set_option linter.unusedSimpArgs false
set_option linter.unusedVariables false
set_option maxRecDepth 100000
section
variable {H : Type} {enc : TypeId × Value → H} {w : World} {held : Bool} {fuel : Nat} {cs : List Value} {x : DataW H × List MemPlace}
theorem bulk_one (d : DataW H) : 1 ≤ Rows.uptoBulk d := by
  cases d with
  | lit l => cases l <;> simp [Rows.uptoBulk]
  | nil => simp [Rows.uptoBulk]
  | ptr d => simp [Rows.uptoBulk]
  | slice elems spare => simp [Rows.uptoBulk]
  | agg parts => simp [Rows.uptoBulk]
  | iface t d => simp [Rows.uptoBulk]
  | map entries => simp [Rows.uptoBulk]
  | held h => simp [Rows.uptoBulk]
theorem bulk_len (l : List (DataW H)) : l.length ≤ Rows.uptoBulkAll l := by
  induction l with
  | nil => simp [Rows.uptoBulkAll]
  | cons x r ih => have := bulk_one x; simp only [Rows.uptoBulkAll, List.length_cons]; omega
theorem bulk_part {d : DataW H} {l : List (DataW H)} (h : d ∈ l) : Rows.uptoBulk d ≤ Rows.uptoBulkAll l := by
  induction l with
  | nil => cases h
  | cons x r ih =>
    simp only [Rows.uptoBulkAll]
    cases List.mem_cons.1 h with
    | inl e => subst e; omega
    | inr e => have := ih e; omega
/-- a struct's field, as cells of its own, and how great it is -/
theorem fieldB {t : TypeId} {fs : Array Field} (ht : Tryz.prog.underlying t = some (.struct fs)) (h : DataW.trod enc Tryz.prog w 0 (fun _ => true) held fuel t cs = some x) (i : Nat) {f : Field} (hf : fs[i]? = some f) :
    ∃ m y, DataW.trod enc Tryz.prog w 0 (fun _ => true) held m f.type ((cs.drop f.offset).take (Tryz.prog.cellsOf f.type)) = some y ∧ Rows.uptoBulk y.1 ≤ Rows.uptoBulk x.1 := by
  obtain ⟨xs, n, _, hxe, _, hlen, hx⟩ := DataW.trod_struct ht h
  have h1 := hx i f hf
  have hi := (Array.getElem?_eq_some_iff.1 hf).1
  rw [List.getElem?_eq_getElem (by omega)] at h1
  refine ⟨_, _, h1, ?_⟩
  have hm : (xs[i]'(by omega)).1 ∈ xs.map (·.1) := List.mem_map.2 ⟨_, List.getElem_mem (by omega), rfl⟩
  have := bulk_part hm
  rw [hxe]
  simp only [Rows.uptoBulk]
  omega
theorem one_cell {cs : List Value} {o : Nat} {v : Value} (h : (cs.drop o).take 1 = [v]) : cs[o]? = some v := by
  have := congrArg (fun l => l[0]?) h
  simpa [List.getElem?_take, List.getElem?_drop] using this
theorem fieldStr {t : TypeId} {fs : Array Field} (ht : Tryz.prog.underlying t = some (.struct fs)) (h : DataW.trod enc Tryz.prog w 0 (fun _ => true) held fuel t cs = some x) (i : Nat) {f : Field} (hf : fs[i]? = some f)
    (hk : Tryz.prog.underlying f.type = some .string) (hc : Tryz.prog.cellsOf f.type = 1) : ∃ s : ByteArray, cs[f.offset]? = some (.string s) ∧ s.size ≤ Rows.uptoBulk x.1 := by
  obtain ⟨m, y, h1, h2⟩ := fieldB ht h i hf
  rw [hc] at h1
  obtain ⟨s, h3, h4, _⟩ := DataW.trod_string hk h1
  refine ⟨s, one_cell h3, ?_⟩
  rw [h4] at h2
  simp only [Rows.uptoBulk] at h2
  have : s.data.toList.length = s.size := by rw [Array.length_toList]; rfl
  omega
theorem open_rowsB {t e : TypeId} {size fuel : Nat} {cs : List Value} {x : DataW H × List MemPlace} (ht : Tryz.prog.underlying t = some (.slice e)) (hc : Tryz.prog.cellsOf e = size) (hpos : 0 < size)
    (h : DataW.trod enc Tryz.prog w 0 (fun _ => true) held fuel t cs = some x) :
    ∃ (v : Value) (n : Nat) (rows : Nat → List Value), cs = [v] ∧ RowAt w size v n ((List.range n).flatMap rows) ∧ n ≤ 9223372036854775807 ∧
      (∀ i, i < n → (rows i).length = size ∧ ∃ m y, DataW.trod enc Tryz.prog w 0 (fun _ => true) held m e (rows i) = some y ∧ Rows.uptoBulk y.1 ≤ Rows.uptoBulk x.1) ∧ CapOk v ∧ n ≤ Rows.uptoBulk x.1 := by
  rcases Deep.open_slice ht h with ⟨rfl, _⟩ | ⟨a, len, cap, m, n, D, Pl, rfl, _, hl, hm, hmm, hxe, hx⟩
  · exact ⟨_, 0, fun _ => [], rfl, ⟨by simp, Or.inl ⟨none, 0, rfl, rfl⟩⟩, by omega, fun i hi => absurd hi (by omega), Nat.le_refl _, Nat.zero_le _⟩
  · simp only [if_true] at hmm
    subst hmm
    rw [hc] at hx
    obtain ⟨rows, hrows⟩ := Deep.choose_lt (α := List Value) (p := fun i cs' => w.cells? 0 (a.add (i * size)) size = some cs' ∧ DataW.trod enc Tryz.prog w 0 (fun _ => true) held n e cs' = some (D i, Pl i)) (fun i hi => hx i hi)
    refine ⟨_, len, rows, rfl, ?_, by have h2 : maxLen = 9223372036854775807 := rfl; omega, fun i hi => ⟨(World.cells?_some (hrows i (by omega)).1).2.1, n, _, (hrows i (by omega)).2, ?_⟩, hl, ?_⟩
    rotate_left
    · rw [hxe]
      have h1 : D i ∈ (List.range len).map D := List.mem_map.2 ⟨i, by simpa using hi, rfl⟩
      have := bulk_part h1
      simp only [Rows.uptoBulk]
      omega
    · rw [hxe]
      have := bulk_len ((List.range len).map D)
      rw [List.length_map, List.length_range] at this
      simp only [Rows.uptoBulk]
      omega
    have hlen : ∀ i, i < len → (rows i).length = size := fun i hi => (World.cells?_some (hrows i (by omega)).1).2.1
    refine ⟨range_rows_len rows size len hlen, ?_⟩
    by_cases h0 : len = 0
    · subst h0; exact Or.inl ⟨_, m, rfl, rfl⟩
    · obtain ⟨b, off, spot⟩ := a
      have hcell := fun i (hi : i < len) j (hj : j < size) => (World.cells?_some (hrows i (by omega)).1).2.2 j hj
      have h00 := hcell 0 (by omega) 0 hpos
      have hne : (rows 0)[0]? ≠ none := by
        have := hlen 0 (by omega)
        rw [List.getElem?_eq_getElem (by omega)]; simp
      rw [← h00] at hne
      simp only [Nat.zero_mul, Addr.add, if_true, World.cell?] at hne
      split at hne
      · rename_i c te f hb
        cases spot with
        | some s => simp at hne
        | none =>
          have hall : ∀ i, i < len → ∀ j, j < size → c[off + i * size + j]? = (rows i)[j]? := by
            intro i hi j hj
            have := hcell i hi j hj
            rw [addr_add, addr_add, cell?_at, hb, cellIn_some] at this
            exact this
          have hsz : off + len * size ≤ c.size := by
            have h1 := hall (len - 1) (by omega) (size - 1) (by omega)
            rw [List.getElem?_eq_getElem (by rw [hlen _ (by omega)]; omega)] at h1
            have h2 := (Array.getElem?_eq_some_iff.1 h1).1
            have h3 : (len - 1) * size + size = len * size := by
              have : len = (len - 1) + 1 := by omega
              conv => rhs; rw [this, Nat.add_mul, Nat.one_mul]
            omega
          refine Or.inr ⟨b, off, m, c, te, f, rfl, hb, hsz, ?_⟩
          apply List.ext_getElem?
          intro k
          rw [List.getElem?_take]
          by_cases hk : k < len * size
          · rw [if_pos hk, List.getElem?_drop, Array.getElem?_toList]
            have hkk : k = k / size * size + k % size := by rw [Nat.mul_comm]; exact (Nat.div_add_mod k size).symm
            have hi : k / size < len := Nat.div_lt_of_lt_mul (by rw [Nat.mul_comm]; exact hk)
            have hj : k % size < size := Nat.mod_lt _ hpos
            rw [hkk, range_rows rows size len hlen _ _ hi hj, ← hall _ hi _ hj, Nat.add_assoc]
          · rw [if_neg hk, List.getElem?_eq_none]
            rw [range_rows_len rows size len hlen]; omega
      · exact absurd rfl hne
theorem open_words {t e : TypeId} (ht : Tryz.prog.underlying t = some (.slice e)) (he : Tryz.prog.underlying e = some (.int .u16)) (hc : Tryz.prog.cellsOf e = 1) (h : DataW.trod enc Tryz.prog w 0 (fun _ => true) held fuel t cs = some x) :
    ∃ (s : SlV) (L : List Int), cs = [.slice s.p s.n s.cap] ∧ RowAt w 1 (.slice s.p s.n s.cap) L.length (L.map u16V) ∧ (∀ z ∈ L, 0 ≤ z ∧ z < 65536) ∧ L.length ≤ Rows.uptoBulk x.1 := by
  obtain ⟨v, n, rows, rfl, hr, hn, hrow, hcap, hb⟩ := open_rowsB ht hc (by omega) h
  obtain ⟨z, hz⟩ := Deep.choose_lt (α := Int) (p := fun i z => rows i = [.int .u16 z] ∧ 0 ≤ z ∧ z < 65536) (fun i (hi : i < n) => by
    obtain ⟨h1, m, y, hy, _⟩ := hrow i hi
    obtain ⟨z, h2, _, h3⟩ := DataW.trod_int he hy
    exact ⟨z, h2, wf_u16 h3⟩)
  obtain ⟨p, c, rfl⟩ := hr.len
  refine ⟨⟨p, n, c⟩, (List.range n).map z, rfl, ?_, ?_, by simpa using hb⟩
  · have e : (List.range n).flatMap rows = ((List.range n).map z).map u16V := by
      have : ∀ l : List Nat, (∀ i ∈ l, i < n) → l.flatMap rows = (l.map z).map u16V := by
        intro l
        induction l with
        | nil => intro _; rfl
        | cons i l ih =>
          intro hl
          rw [List.flatMap_cons, ih (fun j hj => hl j (by simp [hj])), (hz i (hl i (by simp))).1]
          rfl
      exact this _ (fun i hi => by simpa using hi)
    rw [e] at hr
    simpa using hr
  · intro y hy
    obtain ⟨i, hi, rfl⟩ := List.mem_map.1 hy
    exact (hz i (by simpa using hi)).2
theorem flat_rows {α : Type} (f : α → List Value) {n : Nat} {rows : Nat → List Value} {z : Nat → α} (h : ∀ i, i < n → rows i = f (z i)) : (List.range n).flatMap rows = ((List.range n).map z).flatMap f := by
  have : ∀ l : List Nat, (∀ i ∈ l, i < n) → l.flatMap rows = (l.map z).flatMap f := by
    intro l
    induction l with
    | nil => intro _; rfl
    | cons i l ih =>
      intro hl
      rw [List.flatMap_cons, List.map_cons, List.flatMap_cons, ih (fun j hj => hl j (by simp [hj])), h i (hl i (by simp))]
  exact this _ (fun i hi => by simpa using hi)
theorem open_lock (h : DataW.trod enc Tryz.prog w 0 (fun _ => true) held fuel 110 cs = some x) (hl : cs.length = 4) : ∃ y : LockV, y.ok ∧ cs = y.row := by
  have hu := Tryz.underlying110
  obtain ⟨n0, g0, w0⟩ := field_int hu h 0 rfl Tryz.underlying3 (by kernel_rfl)
  obtain ⟨n1, g1, w1⟩ := field_int hu h 1 rfl Tryz.underlying25 (by kernel_rfl)
  obtain ⟨n2, g2, w2⟩ := field_int hu h 2 rfl Tryz.underlying25 (by kernel_rfl)
  obtain ⟨n3, g3, w3⟩ := field_int hu h 3 rfl Tryz.underlying22 (by kernel_rfl)
  refine ⟨⟨n0, n1, n2, n3⟩, ⟨wf_u64 w1, wf_u64 w2, wf_u16 w3⟩, ?_⟩
  match cs, hl, g0, g1, g2, g3 with
  | [c0, c1, c2, c3], _, g0, g1, g2, g3 =>
    simp at g0 g1 g2 g3
    simp [LockV.row, *]
theorem open_ent (h : DataW.trod enc Tryz.prog w 0 (fun _ => true) held fuel 114 cs = some x) (hl : cs.length = 3) (hb : Rows.uptoBulk x.1 ≤ 1048576) : ∃ y : EntV, y.ok ∧ cs = y.row := by
  have hu := Tryz.underlying114
  obtain ⟨s, g0, b0⟩ := fieldStr hu h 0 rfl Tryz.underlying9 (by kernel_rfl)
  obtain ⟨m, y, h1, _⟩ := fieldB hu h 1 rfl
  have hu1 := Tryz.underlying112
  obtain ⟨n0, k0, w0⟩ := field_int hu1 h1 0 rfl Tryz.underlying36 (by kernel_rfl)
  obtain ⟨n1, k1, w1⟩ := field_int hu1 h1 1 rfl Tryz.underlying3 (by kernel_rfl)
  refine ⟨⟨s, n0, n1⟩, ⟨wf_u8 w0, by show s.size ≤ _; omega⟩, ?_⟩
  have e : Tryz.prog.cellsOf 112 = 2 := by kernel_rfl
  match cs, hl, g0, k0, k1 with
  | [c0, c1, c2], _, g0, k0, k1 =>
    have k0' : ((([c0, c1, c2] : List Value).drop 1).take (Tryz.prog.cellsOf 112))[0]? = some (.int .u8 n0) := k0
    have k1' : ((([c0, c1, c2] : List Value).drop 1).take (Tryz.prog.cellsOf 112))[1]? = some (.int .i64 n1) := k1
    rw [e] at k0' k1'
    simp at g0 k0' k1'
    simp [EntV.row, *]
theorem open_locks (h : DataW.trod enc Tryz.prog w 0 (fun _ => true) held fuel 32 cs = some x) :
    ∃ (s : SlV) (L : List LockV), cs = [.slice s.p s.n s.cap] ∧ RowAt w 4 (.slice s.p s.n s.cap) L.length (L.flatMap LockV.row) ∧ (∀ z ∈ L, LockV.ok z) ∧ L.length ≤ Rows.uptoBulk x.1 := by
  obtain ⟨v, n, rows, rfl, hr, hn, hrow, hcap, hb⟩ := open_rowsB (size := 4) Tryz.underlying32 (by kernel_rfl) (by omega) h
  haveI : Inhabited LockV := ⟨⟨0, 0, 0, 0⟩⟩
  obtain ⟨z, hz⟩ := Deep.choose_lt (α := LockV) (p := fun i z => rows i = z.row ∧ z.ok) (fun i (hi : i < n) => by
    obtain ⟨h1, m, y, hy, _⟩ := hrow i hi
    obtain ⟨z, h2, h3⟩ := open_lock hy h1
    exact ⟨z, h3, h2⟩)
  obtain ⟨p, c, rfl⟩ := hr.len
  refine ⟨⟨p, n, c⟩, (List.range n).map z, rfl, ?_, ?_, by simpa using hb⟩
  · rw [flat_rows LockV.row (fun i hi => (hz i hi).1)] at hr
    simpa using hr
  · intro y hy
    obtain ⟨i, hi, rfl⟩ := List.mem_map.1 hy
    exact (hz i (by simpa using hi)).2
theorem open_ents (h : DataW.trod enc Tryz.prog w 0 (fun _ => true) held fuel 37 cs = some x) (hbk : Rows.uptoBulk x.1 ≤ 1048576) :
    ∃ (s : SlV) (L : List EntV), cs = [.slice s.p s.n s.cap] ∧ RowAt w 3 (.slice s.p s.n s.cap) L.length (L.flatMap EntV.row) ∧ (∀ z ∈ L, EntV.ok z) ∧ L.length ≤ Rows.uptoBulk x.1 := by
  obtain ⟨v, n, rows, rfl, hr, hn, hrow, hcap, hb⟩ := open_rowsB (size := 3) Tryz.underlying37 (by kernel_rfl) (by omega) h
  haveI : Inhabited EntV := ⟨⟨ByteArray.empty, 0, 0⟩⟩
  obtain ⟨z, hz⟩ := Deep.choose_lt (α := EntV) (p := fun i z => rows i = z.row ∧ z.ok) (fun i (hi : i < n) => by
    obtain ⟨h1, m, y, hy, hyb⟩ := hrow i hi
    obtain ⟨z, h2, h3⟩ := open_ent hy h1 (by omega)
    exact ⟨z, h3, h2⟩)
  obtain ⟨p, c, rfl⟩ := hr.len
  refine ⟨⟨p, n, c⟩, (List.range n).map z, rfl, ?_, ?_, by simpa using hb⟩
  · rw [flat_rows EntV.row (fun i hi => (hz i hi).1)] at hr
    simpa using hr
  · intro y hy
    obtain ⟨i, hi, rfl⟩ := List.mem_map.1 hy
    exact (hz i (by simpa using hi)).2
theorem open_bytesB (h : DataW.trod enc Tryz.prog w 0 (fun _ => true) held fuel 31 cs = some x) :
    ∃ (s : SlV) (l : List UInt8), cs = [.slice s.p s.n s.cap] ∧ BytesAt w (.slice s.p s.n s.cap) l ∧ l.length ≤ Rows.uptoBulk x.1 := by
  obtain ⟨v, l, rfl, hb, hl⟩ := open_bytes Tryz.underlying31 Tryz.underlying5 (by kernel_rfl) h
  obtain ⟨p, c, rfl, _⟩ := hb.len
  refine ⟨⟨p, l.length, c⟩, l, rfl, hb, ?_⟩
  rcases hl with rfl | ⟨e, s, h1, h2⟩
  · exact Nat.zero_le _
  · rw [h1, ← h2]
    have := bulk_len e
    simp only [Rows.uptoBulk]
    omega
theorem take_cells {cs : List Value} {o n : Nat} {m : Nat} (e : m = n) {r : List Value} (h : (cs.drop o).take m = r) : (cs.drop o).take n = r := by rw [← e]; exact h
theorem drop_arr {cs : List Value} {o n : Nat} {l : List Value} (h : (cs.drop o).take n = l) : cs.drop o = l ++ cs.drop (o + n) := by
  rw [← h]
  have := (List.take_append_drop n (cs.drop o)).symm
  rw [List.drop_drop] at this
  exact this
theorem drop_cell {cs : List Value} {o : Nat} {v : Value} (h : cs[o]? = some v) : cs.drop o = v :: cs.drop (o + 1) := by
  obtain ⟨hi, he⟩ := List.getElem?_eq_some_iff.1 h
  rw [← he]
  exact List.drop_eq_getElem_cons hi
theorem open_ask (h : DataW.trod enc Tryz.prog w 0 (fun _ => true) held fuel 34 cs = some x) (hbk : Rows.uptoBulk x.1 ≤ 1048576) : ∃ (a : AskV) (A : AskS), cs = a.row ∧ AskAt w a A ∧ AskG a A := by
  have hu := Tryz.underlying34
  obtain ⟨_, _, _, _, hlen, _, _⟩ := DataW.trod_struct hu h
  have hl : cs.length = 69 := hlen.trans (by kernel_rfl)
  obtain ⟨m_dialects, y_dialects, h_dialects, hb_dialects⟩ := fieldB hu h 0 rfl
  obtain ⟨x_dialects, L_dialects, e_dialects, r_dialects, o_dialects, b_dialects⟩ := open_words Tryz.underlying29 Tryz.underlying22 (by kernel_rfl) h_dialects
  have g_dialects : cs[0]? = some (.slice x_dialects.p x_dialects.n x_dialects.cap) := one_cell (take_cells (by kernel_rfl) e_dialects)
  obtain ⟨m_guid, y_guid, h_guid⟩ := field_any hu h 1 rfl
  obtain ⟨x_guid, e_guid⟩ := open_arr (n := 16) Tryz.underlying26 Tryz.underlying5 (by kernel_rfl) (by kernel_rfl) h_guid
  replace e_guid : (cs.drop 1).take 16 = x_guid.1.map u8V := take_cells (by kernel_rfl) e_guid
  obtain ⟨m_proof, y_proof, h_proof⟩ := field_any hu h 2 rfl
  obtain ⟨x_proof, e_proof⟩ := open_arr (n := 32) Tryz.underlying30 Tryz.underlying5 (by kernel_rfl) (by kernel_rfl) h_proof
  replace e_proof : (cs.drop 17).take 32 = x_proof.1.map u8V := take_cells (by kernel_rfl) e_proof
  obtain ⟨x_user, g_user, b_user⟩ := fieldStr hu h 3 rfl Tryz.underlying9 (by kernel_rfl)
  obtain ⟨x_share, g_share, b_share⟩ := fieldStr hu h 4 rfl Tryz.underlying9 (by kernel_rfl)
  obtain ⟨x_access, g_access, w_access⟩ := field_int hu h 5 rfl Tryz.underlying23 (by kernel_rfl)
  obtain ⟨x_sharing, g_sharing, w_sharing⟩ := field_int hu h 6 rfl Tryz.underlying23 (by kernel_rfl)
  obtain ⟨x_way, g_way, w_way⟩ := field_int hu h 7 rfl Tryz.underlying23 (by kernel_rfl)
  obtain ⟨x_options, g_options, w_options⟩ := field_int hu h 8 rfl Tryz.underlying23 (by kernel_rfl)
  obtain ⟨x_level, g_level, w_level⟩ := field_int hu h 9 rfl Tryz.underlying5 (by kernel_rfl)
  obtain ⟨x_durable, g_durable, w_durable⟩ := field_int hu h 10 rfl Tryz.underlying5 (by kernel_rfl)
  obtain ⟨x_file, g_file, w_file⟩ := field_int hu h 11 rfl Tryz.underlying25 (by kernel_rfl)
  obtain ⟨x_name, g_name, b_name⟩ := fieldStr hu h 12 rfl Tryz.underlying9 (by kernel_rfl)
  obtain ⟨x_at_, g_at_, w_at_⟩ := field_int hu h 13 rfl Tryz.underlying25 (by kernel_rfl)
  obtain ⟨x_n, g_n, w_n⟩ := field_int hu h 14 rfl Tryz.underlying23 (by kernel_rfl)
  obtain ⟨m_data, y_data, h_data, hb_data⟩ := fieldB hu h 15 rfl
  obtain ⟨x_data, L_data, e_data, r_data, b_data⟩ := open_bytesB h_data
  have g_data : cs[61]? = some (.slice x_data.p x_data.n x_data.cap) := one_cell (take_cells (by kernel_rfl) e_data)
  obtain ⟨m_locks, y_locks, h_locks, hb_locks⟩ := fieldB hu h 16 rfl
  obtain ⟨x_locks, L_locks, e_locks, r_locks, o_locks, b_locks⟩ := open_locks h_locks
  have g_locks : cs[62]? = some (.slice x_locks.p x_locks.n x_locks.cap) := one_cell (take_cells (by kernel_rfl) e_locks)
  obtain ⟨x_most, g_most, w_most⟩ := field_int hu h 17 rfl Tryz.underlying22 (by kernel_rfl)
  obtain ⟨x_pattern, g_pattern, b_pattern⟩ := fieldStr hu h 18 rfl Tryz.underlying9 (by kernel_rfl)
  obtain ⟨x_after, g_after, b_after⟩ := fieldStr hu h 19 rfl Tryz.underlying9 (by kernel_rfl)
  obtain ⟨x_cls, g_cls, w_cls⟩ := field_int hu h 20 rfl Tryz.underlying22 (by kernel_rfl)
  obtain ⟨x_size_, g_size_, w_size_⟩ := field_int hu h 21 rfl Tryz.underlying25 (by kernel_rfl)
  obtain ⟨x_on, g_on⟩ := field_bool hu h 22 rfl Tryz.underlying4 (by kernel_rfl)
  have d69 : cs.drop 69 = [] := List.drop_eq_nil_of_le (by omega)
  have d68 : cs.drop 68 = (.bool x_on) :: cs.drop 69 := drop_cell g_on
  have d67 : cs.drop 67 = (.int .u64 x_size_) :: cs.drop 68 := drop_cell g_size_
  have d66 : cs.drop 66 = (.int .u16 x_cls) :: cs.drop 67 := drop_cell g_cls
  have d65 : cs.drop 65 = (.string x_after) :: cs.drop 66 := drop_cell g_after
  have d64 : cs.drop 64 = (.string x_pattern) :: cs.drop 65 := drop_cell g_pattern
  have d63 : cs.drop 63 = (.int .u16 x_most) :: cs.drop 64 := drop_cell g_most
  have d62 : cs.drop 62 = (.slice x_locks.p x_locks.n x_locks.cap) :: cs.drop 63 := drop_cell g_locks
  have d61 : cs.drop 61 = (.slice x_data.p x_data.n x_data.cap) :: cs.drop 62 := drop_cell g_data
  have d60 : cs.drop 60 = (.int .u32 x_n) :: cs.drop 61 := drop_cell g_n
  have d59 : cs.drop 59 = (.int .u64 x_at_) :: cs.drop 60 := drop_cell g_at_
  have d58 : cs.drop 58 = (.string x_name) :: cs.drop 59 := drop_cell g_name
  have d57 : cs.drop 57 = (.int .u64 x_file) :: cs.drop 58 := drop_cell g_file
  have d56 : cs.drop 56 = (.int .u8 x_durable) :: cs.drop 57 := drop_cell g_durable
  have d55 : cs.drop 55 = (.int .u8 x_level) :: cs.drop 56 := drop_cell g_level
  have d54 : cs.drop 54 = (.int .u32 x_options) :: cs.drop 55 := drop_cell g_options
  have d53 : cs.drop 53 = (.int .u32 x_way) :: cs.drop 54 := drop_cell g_way
  have d52 : cs.drop 52 = (.int .u32 x_sharing) :: cs.drop 53 := drop_cell g_sharing
  have d51 : cs.drop 51 = (.int .u32 x_access) :: cs.drop 52 := drop_cell g_access
  have d50 : cs.drop 50 = (.string x_share) :: cs.drop 51 := drop_cell g_share
  have d49 : cs.drop 49 = (.string x_user) :: cs.drop 50 := drop_cell g_user
  have d17 : cs.drop 17 = x_proof.1.map u8V ++ cs.drop 49 := drop_arr e_proof
  have d1 : cs.drop 1 = x_guid.1.map u8V ++ cs.drop 17 := drop_arr e_guid
  have d0 : cs.drop 0 = (.slice x_dialects.p x_dialects.n x_dialects.cap) :: cs.drop 1 := drop_cell g_dialects
  have hcs : cs = cs.drop 0 := rfl
  have l_dialects : L_dialects.length ≤ 1099511627776 := by omega
  have l_user : x_user.size ≤ 1099511627776 := by omega
  have l_share : x_share.size ≤ 1099511627776 := by omega
  have l_name : x_name.size ≤ 1099511627776 := by omega
  have l_data : L_data.length ≤ 1099511627776 := by omega
  have l_locks : L_locks.length ≤ 1099511627776 := by omega
  have l_pattern : x_pattern.size ≤ 1099511627776 := by omega
  have l_after : x_after.size ≤ 1099511627776 := by omega
  refine ⟨⟨x_dialects, x_guid, x_proof, x_user, x_share, x_access, x_sharing, x_way, x_options, x_level, x_durable, x_file, x_name, x_at_, x_n, x_data, x_locks, x_most, x_pattern, x_after, x_cls, x_size_, x_on⟩, ⟨⟨⟨none, 0, 0⟩, x_guid, x_proof, x_user, x_share, x_access, x_sharing, x_way, x_options, x_level, x_durable, x_file, x_name, x_at_, x_n, ⟨none, 0, 0⟩, ⟨none, 0, 0⟩, x_most, x_pattern, x_after, x_cls, x_size_, x_on⟩, L_dialects, L_data, L_locks⟩, ?_, ⟨rfl, r_dialects, r_data, r_locks, l_dialects, l_data, l_locks⟩, ⟨⟨wf_u32 w_access, wf_u32 w_sharing, wf_u32 w_way, wf_u32 w_options, wf_u8 w_level, wf_u8 w_durable, wf_u64 w_file, wf_u64 w_at_, wf_u32 w_n, wf_u16 w_most, wf_u16 w_cls, wf_u64 w_size_⟩, ⟨l_user, l_share, l_name, l_pattern, l_after⟩, o_dialects, o_locks⟩⟩
  rw [hcs, d0, d1, d17, d49, d50, d51, d52, d53, d54, d55, d56, d57, d58, d59, d60, d61, d62, d63, d64, d65, d66, d67, d68, d69]
  rfl
theorem open_say (h : DataW.trod enc Tryz.prog w 0 (fun _ => true) held fuel 39 cs = some x) (hbk : Rows.uptoBulk x.1 ≤ 1048576) : ∃ (a : SayV) (A : SayS), cs = a.row ∧ SayAt w a A ∧ SayG a A := by
  have hu := Tryz.underlying39
  obtain ⟨_, _, _, _, hlen, _, _⟩ := DataW.trod_struct hu h
  have hl : cs.length = 20 := hlen.trans (by kernel_rfl)
  obtain ⟨x_dialect, g_dialect, w_dialect⟩ := field_int hu h 0 rfl Tryz.underlying22 (by kernel_rfl)
  obtain ⟨x_size_, g_size_, w_size_⟩ := field_int hu h 1 rfl Tryz.underlying25 (by kernel_rfl)
  obtain ⟨m_challenge, y_challenge, h_challenge⟩ := field_any hu h 2 rfl
  obtain ⟨x_challenge, e_challenge⟩ := open_arr (n := 8) Tryz.underlying35 Tryz.underlying5 (by kernel_rfl) (by kernel_rfl) h_challenge
  replace e_challenge : (cs.drop 2).take 8 = x_challenge.1.map u8V := take_cells (by kernel_rfl) e_challenge
  obtain ⟨x_level, g_level, w_level⟩ := field_int hu h 3 rfl Tryz.underlying5 (by kernel_rfl)
  obtain ⟨x_durable, g_durable, w_durable⟩ := field_int hu h 4 rfl Tryz.underlying5 (by kernel_rfl)
  obtain ⟨x_made, g_made, w_made⟩ := field_int hu h 5 rfl Tryz.underlying22 (by kernel_rfl)
  obtain ⟨x_file, g_file, w_file⟩ := field_int hu h 6 rfl Tryz.underlying25 (by kernel_rfl)
  obtain ⟨x_kind, g_kind, w_kind⟩ := field_int hu h 7 rfl Tryz.underlying36 (by kernel_rfl)
  obtain ⟨m_data, y_data, h_data, hb_data⟩ := fieldB hu h 8 rfl
  obtain ⟨x_data, L_data, e_data, r_data, b_data⟩ := open_bytesB h_data
  have g_data : cs[15]? = some (.slice x_data.p x_data.n x_data.cap) := one_cell (take_cells (by kernel_rfl) e_data)
  obtain ⟨x_n, g_n, w_n⟩ := field_int hu h 9 rfl Tryz.underlying23 (by kernel_rfl)
  obtain ⟨m_entries, y_entries, h_entries, hb_entries⟩ := fieldB hu h 10 rfl
  obtain ⟨x_entries, L_entries, e_entries, r_entries, o_entries, b_entries⟩ := open_ents h_entries (by omega)
  have g_entries : cs[17]? = some (.slice x_entries.p x_entries.n x_entries.cap) := one_cell (take_cells (by kernel_rfl) e_entries)
  obtain ⟨x_more, g_more⟩ := field_bool hu h 11 rfl Tryz.underlying4 (by kernel_rfl)
  obtain ⟨x_gone, g_gone⟩ := field_bool hu h 12 rfl Tryz.underlying4 (by kernel_rfl)
  have d20 : cs.drop 20 = [] := List.drop_eq_nil_of_le (by omega)
  have d19 : cs.drop 19 = (.bool x_gone) :: cs.drop 20 := drop_cell g_gone
  have d18 : cs.drop 18 = (.bool x_more) :: cs.drop 19 := drop_cell g_more
  have d17 : cs.drop 17 = (.slice x_entries.p x_entries.n x_entries.cap) :: cs.drop 18 := drop_cell g_entries
  have d16 : cs.drop 16 = (.int .u32 x_n) :: cs.drop 17 := drop_cell g_n
  have d15 : cs.drop 15 = (.slice x_data.p x_data.n x_data.cap) :: cs.drop 16 := drop_cell g_data
  have d14 : cs.drop 14 = (.int .u8 x_kind) :: cs.drop 15 := drop_cell g_kind
  have d13 : cs.drop 13 = (.int .u64 x_file) :: cs.drop 14 := drop_cell g_file
  have d12 : cs.drop 12 = (.int .u16 x_made) :: cs.drop 13 := drop_cell g_made
  have d11 : cs.drop 11 = (.int .u8 x_durable) :: cs.drop 12 := drop_cell g_durable
  have d10 : cs.drop 10 = (.int .u8 x_level) :: cs.drop 11 := drop_cell g_level
  have d2 : cs.drop 2 = x_challenge.1.map u8V ++ cs.drop 10 := drop_arr e_challenge
  have d1 : cs.drop 1 = (.int .u64 x_size_) :: cs.drop 2 := drop_cell g_size_
  have d0 : cs.drop 0 = (.int .u16 x_dialect) :: cs.drop 1 := drop_cell g_dialect
  have hcs : cs = cs.drop 0 := rfl
  have l_data : L_data.length ≤ 1099511627776 := by omega
  have l_entries : L_entries.length ≤ 1099511627776 := by omega
  refine ⟨⟨x_dialect, x_size_, x_challenge, x_level, x_durable, x_made, x_file, x_kind, x_data, x_n, x_entries, x_more, x_gone⟩, ⟨⟨x_dialect, x_size_, x_challenge, x_level, x_durable, x_made, x_file, x_kind, ⟨none, 0, 0⟩, x_n, ⟨none, 0, 0⟩, x_more, x_gone⟩, L_data, L_entries⟩, ?_, ⟨rfl, r_data, r_entries, l_data, l_entries⟩, ⟨⟨wf_u16 w_dialect, wf_u64 w_size_, wf_u8 w_level, wf_u8 w_durable, wf_u16 w_made, wf_u64 w_file, wf_u8 w_kind, wf_u32 w_n⟩, o_entries⟩⟩
  rw [hcs, d0, d1, d2, d10, d11, d12, d13, d14, d15, d16, d17, d18, d19, d20]
  rfl
theorem arg_msg {r : Reach} {b0 : Nat} {v : Value} {d : DataW H} {p : List MemPlace} (hv : Value.okWide Tryz.prog w r b0 41 v) (h : DataW.Trod enc Tryz.prog w 0 (fun _ => true) held 41 v d p) (hbk : Rows.uptoBulk d ≤ 1048576) :
    ∃ (m : MsgV) (M : MsgS), v = .agg m.cells ∧ MsgAtR w m M ∧ m.head.ok ∧ AskG m.ask M.ask ∧ SayG m.say M.say := by
  have hu := Tryz.underlying41
  obtain ⟨cs, fu, rfl, hm⟩ := open_agg hu hv h
  obtain ⟨_, _, _, _, hlen, _, _⟩ := DataW.trod_struct hu hm
  have hl : cs.length = 115 := hlen.trans (by kernel_rfl)
  obtain ⟨m0, y0, h0, b0⟩ := fieldB hu hm 0 rfl
  obtain ⟨m1, y1, h1, b1⟩ := fieldB hu hm 1 rfl
  obtain ⟨m2, y2, h2, b2⟩ := fieldB hu hm 2 rfl
  replace b1 : Rows.uptoBulk y1.1 ≤ Rows.uptoBulk d := b1
  replace b2 : Rows.uptoBulk y2.1 ≤ Rows.uptoBulk d := b2
  obtain ⟨g, gok, e0⟩ := open_head h0
  obtain ⟨a, A, e1, ha, ga⟩ := open_ask h1 (by omega)
  obtain ⟨s, S, e2, hs, gs⟩ := open_say h2 (by omega)
  replace e0 : (cs.drop 0).take 26 = g.row := take_cells (by kernel_rfl) e0
  replace e1 : (cs.drop 26).take 69 = a.row := take_cells (by kernel_rfl) e1
  replace e2 : (cs.drop 95).take 20 = s.row := take_cells (by kernel_rfl) e2
  have hcs : cs = g.row ++ (a.row ++ s.row) := by
    rw [← e0, ← e1, ← e2]
    have h3 : (cs.drop 95).take 20 = cs.drop 95 := List.take_of_length_le (by simp; omega)
    rw [h3]
    have h4 : cs.drop 95 = (cs.drop 26).drop 69 := by rw [List.drop_drop]
    rw [h4, List.take_append_drop, List.drop_zero, List.take_append_drop]
  exact ⟨⟨g, a, s⟩, ⟨g, A, S⟩, by rw [hcs]; rfl, ⟨rfl, ha, hs⟩, gok, ga, gs⟩
end
end Go.Proofs.YtinfdomlpbikaaaGreatDoor
namespace Go.Proofs.YtinfdomlpbikaaaGreatDoor
open Go.Eng Go.Lib
set_option linter.unusedSimpArgs false
set_option linter.unusedVariables false
set_option maxRecDepth 100000
def Bd {α : Type} (C : Codec α) (N : Nat) : Prop := ∀ x b, C.put x = .ok b → b.length ≤ N
theorem Bd.mono {α : Type} {C : Codec α} {N M : Nat} (h : Bd C N) (hm : N ≤ M) : Bd C M := fun x b e => Nat.le_trans (h x b e) hm
theorem bd_num (k : Nat) : Bd (numC k) k := by
  intro x b h
  simp only [numC] at h
  split at h
  · injection h with h; subst h; rw [leB_len]; exact Nat.le_refl _
  · cases h
theorem bd_chk {α : Type} {C : Codec α} {p : α → Bool} {e : Int} {N : Nat} (h : Bd C N) : Bd (chkC C p e) N := by
  intro x b hx
  simp only [chkC] at hx
  split at hx
  · exact h x b hx
  · cases hx
theorem bd_seq {α β : Type} {C : Codec α} {D : α → Codec β} {N M : Nat} (h : Bd C N) (hd : ∀ x c, C.put x = .ok c → Bd (D x) M) : Bd (seqC C D) (N + M) := by
  rintro ⟨x, y⟩ b hx
  simp only [seqC] at hx
  split at hx
  · cases hx
  · rename_i c hc
    split at hx
    · cases hx
    · rename_i d hd'
      injection hx with hx
      subst hx
      have h1 := h _ _ hc
      have h2 := hd _ _ hc _ _ hd'
      rw [List.length_append]; omega
theorem bd_most (k : Nat) (m e : Int) : Bd (mostC k m e) k := bd_chk (bd_num k)
theorem bd_zero (k : Nat) : Bd (zeroC k) k := fun x b h => bd_chk (C := numC k) (p := fun x => decide (x = 0)) (e := 5) (bd_num k) 0 b h
theorem bd_bool (k : Nat) : Bd (boolC k) k := fun x b h => bd_most k 1 5 _ b h
theorem bd_text : Bd textC 514 := fun s b h => textPut_len h
theorem bd_arr (n : Nat) : Bd (arrC n) n := by
  intro x b h
  injection h with h
  subst h
  rw [x.2]; exact Nat.le_refl _
theorem bd_list {α : Type} {C : Codec α} {N : Nat} (h : Bd C N) : ∀ n, Bd (listC C n) (n * N)
  | 0 => by
    intro x b hb
    cases x with
    | nil => injection hb with hb; subst hb; exact Nat.zero_le _
    | cons a l => cases hb
  | n + 1 => by
    intro x b hb
    cases x with
    | nil => cases hb
    | cons a l =>
      have := bd_seq (D := fun _ => listC C n) h (fun _ _ _ => bd_list h n) (a, l) b hb
      rw [Nat.add_mul]; omega
theorem bd_bytes (n : Nat) : Bd (bytesC n) n := by
  intro x b h
  simp only [bytesC] at h
  split at h
  · rename_i hl; injection h with h; subst h; omega
  · cases h
theorem most_le {k : Nat} {m e x : Int} {b : List UInt8} (h : (mostC k m e).put x = .ok b) : x ≤ m := by
  have h' : (if decide (x ≤ m) = true then (numC k).put x else .error 2) = .ok b := h
  split at h'
  · rename_i hd; simpa using hd
  · cases h'
theorem bd_data : Bd dataC 32772 := bd_seq (M := 32768) (bd_most 4 _ _) (fun x c h => (bd_bytes _).mono (by have := most_le h; omega))
theorem bd_lock : Bd lockC 20 := bd_seq (M := 12) (bd_num 8) fun _ _ _ => bd_seq (M := 4) (bd_num 8) fun _ _ _ => bd_seq (M := 2) (bd_num 2) fun _ _ _ => bd_zero 2
theorem bd_ent : Bd entC 526 := bd_seq (M := 524) (bd_most 2 _ _) fun _ _ _ => bd_seq (M := 522) (bd_zero 2) fun _ _ _ => bd_seq (M := 514) (bd_most 8 _ _) fun _ _ _ => bd_text
theorem bd_cls (c : Int) : Bd (clsC c) 516 := by
  intro x b h
  unfold clsC at h
  split at h
  · simp only [subC] at h
    split at h
    · exact Nat.le_trans (bd_num 8 _ _ h) (by decide)
    · cases h
  · split at h
    · simp only [subC] at h
      split at h
      · exact Nat.le_trans (bd_bool 2 _ _ h) (by decide)
      · cases h
    · simp only [subC] at h
      split at h
      · exact bd_seq (M := 514) (bd_bool 2) (fun _ _ _ => bd_text) _ _ h
      · cases h
theorem Fmt.bd {S : Type} (F : Fmt S) {N : Nat} (h : Bd F.C N) {s : S} {b : List UInt8} (hp : F.put s = .ok b) : b.length ≤ N := by
  unfold Fmt.put at hp
  split at hp
  · split at hp
    · exact h _ _ hp
    · cases hp
  · cases hp
theorem bd_askF0 : Bd askF0.C 40000 := (bd_seq (M := 48) (bd_most 2 16 3) fun x c h => bd_seq (M := 16) ((bd_list (bd_num 2) x.toNat).mono (by have := most_le h; omega)) fun _ _ _ => bd_arr 16).mono (by decide)
theorem bd_askF1 : Bd askF1.C 40000 := (bd_seq (M := 514) (bd_arr 32) fun _ _ _ => bd_text).mono (by decide)
theorem bd_askF3 : Bd askF3.C 40000 := bd_text.mono (by decide)
theorem bd_askFz : Bd askFz.C 40000 := (bd_zero 4).mono (by decide)
theorem bd_askF5 : Bd askF5.C 40000 := (bd_seq (bd_num 4) fun _ _ _ => bd_seq (bd_num 4) fun _ _ _ => bd_seq (bd_num 4) fun _ _ _ => bd_seq (bd_num 4) fun _ _ _ => bd_seq (bd_num 1) fun _ _ _ => bd_seq (bd_num 1) fun _ _ _ => bd_seq (bd_zero 2) fun _ _ _ => bd_seq (bd_num 8) fun _ _ _ => bd_text).mono (by decide)
theorem bd_askFf : Bd askFf.C 40000 := (bd_num 8).mono (by decide)
theorem bd_askF8 : Bd askF8.C 40000 := (bd_seq (bd_num 8) fun _ _ _ => bd_seq (bd_num 8) fun _ _ _ => bd_num 4).mono (by decide)
theorem bd_askF9 : Bd askF9.C 40000 := (bd_seq (bd_num 8) fun _ _ _ => bd_seq (bd_num 8) fun _ _ _ => bd_data).mono (by decide)
theorem bd_askF10 : Bd askF10.C 40000 := (bd_seq (bd_num 8) fun _ _ _ => bd_seq (M := 322) (bd_most 2 16 3) fun x c h => bd_seq (M := 320) (bd_zero 2) fun _ _ _ => (bd_list bd_lock x.toNat).mono (by have := most_le h; omega)).mono (by decide)
theorem bd_askF14 : Bd askF14.C 40000 := (bd_seq (bd_num 8) fun _ _ _ => bd_seq (bd_num 2) fun _ _ _ => bd_seq (bd_zero 2) fun _ _ _ => bd_seq bd_text fun _ _ _ => bd_text).mono (by decide)
theorem bd_askF17 : Bd askF17.C 40000 := (bd_seq (bd_num 8) fun _ _ _ => bd_seq (bd_chk (bd_num 2)) fun c _ _ => bd_cls c).mono (by decide)
theorem bd_askF18 : Bd askF18.C 40000 := (bd_seq (bd_num 8) fun _ _ _ => bd_seq (bd_num 1) fun _ _ _ => bd_seq (bd_zero 1) fun _ _ _ => bd_zero 2).mono (by decide)
theorem bd_sayF0 : Bd sayF0.C 40000 := (bd_seq (bd_num 2) fun _ _ _ => bd_seq (bd_zero 2) fun _ _ _ => bd_seq (bd_num 4) fun _ _ _ => bd_arr 8).mono (by decide)
theorem bd_sayFz : Bd sayFz.C 40000 := (bd_zero 4).mono (by decide)
theorem bd_sayF5 : Bd sayF5.C 40000 := (bd_seq (bd_num 1) fun _ _ _ => bd_seq (bd_num 1) fun _ _ _ => bd_seq (bd_most 2 _ _) fun _ _ _ => bd_seq (bd_num 8) fun _ _ _ => bd_seq (bd_num 8) fun _ _ _ => bd_seq (bd_most 2 _ _) fun _ _ _ => bd_zero 2).mono (by decide)
theorem bd_sayF8 : Bd sayF8.C 40000 := bd_data.mono (by decide)
theorem bd_sayF9 : Bd sayF9.C 40000 := (bd_num 4).mono (by decide)
theorem bd_sayF14 : Bd sayF14.C 40000 := (bd_seq (M := 33666) (bd_most 2 64 3) fun x c h => bd_seq (M := 33664) (bd_bool 2) fun _ _ _ => (bd_list bd_ent x.toNat).mono (by have := most_le h; omega)).mono (by decide)
theorem bd_sayF16 : Bd sayF16.C 40000 := (bd_seq (bd_num 8) fun _ _ _ => bd_seq (bd_most 2 _ _) fun _ _ _ => bd_bool 2).mono (by decide)
theorem bd_sayF18 : Bd sayF18.C 40000 := (bd_seq (bd_num 8) fun _ _ _ => bd_seq (bd_num 1) fun _ _ _ => bd_seq (bd_zero 1) fun _ _ _ => bd_zero 2).mono (by decide)
theorem askPut_len {c : Int} {A : AskS} {b : List UInt8} (h : askPut c A = .ok b) : b.length ≤ 40000 := by
  unfold askPut at h
  cases hF : askF c with
  | none => rw [hF] at h; cases h
  | some F =>
    rw [hF] at h
    refine F.bd (N := 40000) ?_ h
    unfold askF at hF
    by_cases hc : c = 0
    · rw [if_pos hc] at hF
      obtain rfl := Option.some.inj hF
      exact bd_askF0
    · rw [if_neg hc] at hF
      clear hc
      by_cases hc : c = 1
      · rw [if_pos hc] at hF
        obtain rfl := Option.some.inj hF
        exact bd_askF1
      · rw [if_neg hc] at hF
        clear hc
        by_cases hc : c = 3
        · rw [if_pos hc] at hF
          obtain rfl := Option.some.inj hF
          exact bd_askF3
        · rw [if_neg hc] at hF
          clear hc
          by_cases hc : c = 2 ∨ c = 4 ∨ c = 12 ∨ c = 13
          · rw [if_pos hc] at hF
            obtain rfl := Option.some.inj hF
            exact bd_askFz
          · rw [if_neg hc] at hF
            clear hc
            by_cases hc : c = 5
            · rw [if_pos hc] at hF
              obtain rfl := Option.some.inj hF
              exact bd_askF5
            · rw [if_neg hc] at hF
              clear hc
              by_cases hc : c = 6 ∨ c = 7 ∨ c = 16
              · rw [if_pos hc] at hF
                obtain rfl := Option.some.inj hF
                exact bd_askFf
              · rw [if_neg hc] at hF
                clear hc
                by_cases hc : c = 8
                · rw [if_pos hc] at hF
                  obtain rfl := Option.some.inj hF
                  exact bd_askF8
                · rw [if_neg hc] at hF
                  clear hc
                  by_cases hc : c = 9
                  · rw [if_pos hc] at hF
                    obtain rfl := Option.some.inj hF
                    exact bd_askF9
                  · rw [if_neg hc] at hF
                    clear hc
                    by_cases hc : c = 10
                    · rw [if_pos hc] at hF
                      obtain rfl := Option.some.inj hF
                      exact bd_askF10
                    · rw [if_neg hc] at hF
                      clear hc
                      by_cases hc : c = 14
                      · rw [if_pos hc] at hF
                        obtain rfl := Option.some.inj hF
                        exact bd_askF14
                      · rw [if_neg hc] at hF
                        clear hc
                        by_cases hc : c = 17
                        · rw [if_pos hc] at hF
                          obtain rfl := Option.some.inj hF
                          exact bd_askF17
                        · rw [if_neg hc] at hF
                          clear hc
                          by_cases hc : c = 18
                          · rw [if_pos hc] at hF
                            obtain rfl := Option.some.inj hF
                            exact bd_askF18
                          · rw [if_neg hc] at hF
                            clear hc
                            cases hF
theorem sayPut_len {c : Int} {A : SayS} {b : List UInt8} (h : sayPut c A = .ok b) : b.length ≤ 40000 := by
  unfold sayPut at h
  cases hF : sayF c with
  | none => rw [hF] at h; cases h
  | some F =>
    rw [hF] at h
    refine F.bd (N := 40000) ?_ h
    unfold sayF at hF
    by_cases hc : c = 0
    · rw [if_pos hc] at hF
      obtain rfl := Option.some.inj hF
      exact bd_sayF0
    · rw [if_neg hc] at hF
      clear hc
      by_cases hc : c = 1 ∨ c = 2 ∨ c = 3 ∨ c = 4 ∨ c = 13 ∨ c = 6 ∨ c = 7 ∨ c = 10 ∨ c = 17
      · rw [if_pos hc] at hF
        obtain rfl := Option.some.inj hF
        exact bd_sayFz
      · rw [if_neg hc] at hF
        clear hc
        by_cases hc : c = 5
        · rw [if_pos hc] at hF
          obtain rfl := Option.some.inj hF
          exact bd_sayF5
        · rw [if_neg hc] at hF
          clear hc
          by_cases hc : c = 8
          · rw [if_pos hc] at hF
            obtain rfl := Option.some.inj hF
            exact bd_sayF8
          · rw [if_neg hc] at hF
            clear hc
            by_cases hc : c = 9
            · rw [if_pos hc] at hF
              obtain rfl := Option.some.inj hF
              exact bd_sayF9
            · rw [if_neg hc] at hF
              clear hc
              by_cases hc : c = 14
              · rw [if_pos hc] at hF
                obtain rfl := Option.some.inj hF
                exact bd_sayF14
              · rw [if_neg hc] at hF
                clear hc
                by_cases hc : c = 16
                · rw [if_pos hc] at hF
                  obtain rfl := Option.some.inj hF
                  exact bd_sayF16
                · rw [if_neg hc] at hF
                  clear hc
                  by_cases hc : c = 18
                  · rw [if_pos hc] at hF
                    obtain rfl := Option.some.inj hF
                    exact bd_sayF18
                  · rw [if_neg hc] at hF
                    clear hc
                    cases hF
theorem bodyPut_len {M : MsgS} {b : List UInt8} (h : bodyPut M = .ok b) : b.length ≤ 40000 := by
  by_cases h1 : hasF M.head.flags 1
  · by_cases h2 : M.head.status = 0
    · rw [bodyPut_say h1 h2] at h; exact sayPut_len h
    · rw [bodyPut_fault h1 h2] at h; injection h with h; subst h; decide
  · rw [bodyPut_ask h1] at h; exact askPut_len h
end Go.Proofs.YtinfdomlpbikaaaGreatDoor
namespace Go.Proofs.YtinfdomlpbikaaaGreatDoor
open Go.Eng Go.Lib
set_option linter.unusedSimpArgs false
set_option linter.unusedVariables false
set_option maxRecDepth 100000
variable {w w0 : World}
theorem none_iff {a : AskV} {A : AskS} (ha : AskAt w a A) : a.noneP ↔ A = zeroAS := by
  obtain ⟨n1, n2, n3⟩ := ha.nums
  constructor
  · rintro ⟨h1, h2⟩
    have d1 : A.dia = [] := List.length_eq_zero_iff.1 (by omega)
    have d2 : A.dat = [] := List.length_eq_zero_iff.1 (by omega)
    have d3 : A.lok = [] := List.length_eq_zero_iff.1 (by omega)
    have hf := ha.f
    cases A
    simp only at *
    rw [d1, d2, d3, hf, h1]
    rfl
  · rintro rfl
    refine ⟨ha.f.symm, ?_⟩
    rw [n1, n2, n3]
    rfl
theorem silent_iff {a : SayV} {A : SayS} (ha : SayAt w a A) : a.silentP ↔ A = zeroSS := by
  obtain ⟨n1, n2⟩ := ha.nums
  constructor
  · rintro ⟨h1, h2⟩
    have d1 : A.dat = [] := List.length_eq_zero_iff.1 (by omega)
    have d2 : A.ent = [] := List.length_eq_zero_iff.1 (by omega)
    have hf := ha.f
    cases A
    simp only at *
    rw [d1, d2, hf, h1]
    rfl
  · rintro rfl
    refine ⟨ha.f.symm, ?_⟩
    rw [n1, n2]
    rfl
theorem may_known {h : HeadV} (hm : mayL h = true) : knownL h.command = true := by
  unfold mayL at hm
  simp at hm
  exact hm.1
theorem msgPut_no {M : MsgS} (h : ¬ (mayL M.head = true ∧ idle M)) : msgPut M = .error 2 := by unfold msgPut; rw [if_neg h]
theorem msgPut_yes {M : MsgS} (h : mayL M.head = true) (hi : idle M) : msgPut M = match bodyPut M with
    | .error e => .error e
    | .ok b => .ok (headB M.head ++ b ++ padOf M.head (64 + b.length)) := by
  unfold msgPut
  rw [if_pos ⟨h, hi⟩]
  cases bodyPut M <;> rfl
def padC (h : HeadV) (n : Nat) : Nat := if h.next = 0 then 0 else padN n
theorem padC_eq (h : HeadV) (n : Nat) : padOf h n = List.replicate (padC h n) 0 := by
  unfold padOf padC
  split <;> rfl
def PNz {α : Type} (C : Codec α) : Prop := ∀ x e, C.put x = .error e → e ≠ 0
theorem nz_two {α : Type} {e : Int} (h : (Except.error 2 : Except Int α) = .error e) : e ≠ 0 := by injection h with h; omega
theorem pn_num (k : Nat) : PNz (numC k) := by
  intro x e h
  simp only [numC] at h
  split at h
  · cases h
  · exact nz_two h
theorem pn_chk {α : Type} {C : Codec α} {p : α → Bool} {c : Int} (h : PNz C) : PNz (chkC C p c) := by
  intro x e hx
  simp only [chkC] at hx
  split at hx
  · exact h x e hx
  · exact nz_two hx
theorem pn_seq {α β : Type} {C : Codec α} {D : α → Codec β} (h : PNz C) (hd : ∀ x, PNz (D x)) : PNz (seqC C D) := by
  rintro ⟨x, y⟩ e hx
  simp only [seqC] at hx
  split at hx
  · rename_i e' he; injection hx with hx; subst hx; exact h _ _ he
  · split at hx
    · rename_i e' he; injection hx with hx; subst hx; exact hd _ _ _ he
    · cases hx
theorem pn_most (k : Nat) (m e : Int) : PNz (mostC k m e) := pn_chk (pn_num k)
theorem pn_zero (k : Nat) : PNz (zeroC k) := fun x e h => pn_chk (C := numC k) (p := fun x => decide (x = 0)) (c := 5) (pn_num k) 0 e h
theorem pn_bool (k : Nat) : PNz (boolC k) := fun x e h => pn_most k 1 5 _ e h
theorem pn_text : PNz textC := fun s e h => textPut_err h
theorem pn_arr (n : Nat) : PNz (arrC n) := fun x e h => by cases h
theorem pn_list {α : Type} {C : Codec α} (h : PNz C) : ∀ n, PNz (listC C n)
  | 0 => by
    intro x e hb
    cases x with
    | nil => cases hb
    | cons a l => exact nz_two hb
  | n + 1 => by
    intro x e hb
    cases x with
    | nil => exact nz_two hb
    | cons a l => exact pn_seq (D := fun _ => listC C n) h (fun _ => pn_list h n) (a, l) e hb
theorem pn_bytes (n : Nat) : PNz (bytesC n) := by
  intro x e h
  simp only [bytesC] at h
  split at h
  · cases h
  · exact nz_two h
theorem pn_data : PNz dataC := pn_seq (pn_most 4 _ _) (fun x => pn_bytes _)
theorem pn_lock : PNz lockC := pn_seq (pn_num 8) fun _ => pn_seq (pn_num 8) fun _ => pn_seq (pn_num 2) fun _ => pn_zero 2
theorem pn_ent : PNz entC := pn_seq (pn_most 2 _ _) fun _ => pn_seq (pn_zero 2) fun _ => pn_seq (pn_most 8 _ _) fun _ => pn_text
theorem pn_cls (c : Int) : PNz (clsC c) := by
  intro x e h
  unfold clsC at h
  split at h
  · simp only [subC] at h
    split at h
    · exact pn_num 8 _ _ h
    · exact nz_two h
  · split at h
    · simp only [subC] at h
      split at h
      · exact pn_bool 2 _ _ h
      · exact nz_two h
    · simp only [subC] at h
      split at h
      · exact pn_seq (pn_bool 2) (fun _ => pn_text) _ _ h
      · exact nz_two h
theorem Fmt.pn {S : Type} (F : Fmt S) (h : PNz F.C) {s : S} {e : Int} (hp : F.put s = .error e) : e ≠ 0 := by
  unfold Fmt.put at hp
  split at hp
  · split at hp
    · exact h _ _ hp
    · rename_i hn; injection hp with hp; subst hp; exact hn
  · exact nz_two hp
theorem pn_askF0 : PNz askF0.C := pn_seq (pn_most 2 _ _) fun n => pn_seq (pn_list (pn_num 2) n.toNat) fun _ => pn_arr 16
theorem pn_askF1 : PNz askF1.C := pn_seq (pn_arr 32) fun _ => pn_text
theorem pn_askF3 : PNz askF3.C := pn_text
theorem pn_askFz : PNz askFz.C := pn_zero 4
theorem pn_askF5 : PNz askF5.C := pn_seq (pn_num 4) fun _ => pn_seq (pn_num 4) fun _ => pn_seq (pn_num 4) fun _ => pn_seq (pn_num 4) fun _ => pn_seq (pn_num 1) fun _ => pn_seq (pn_num 1) fun _ => pn_seq (pn_zero 2) fun _ => pn_seq (pn_num 8) fun _ => pn_text
theorem pn_askFf : PNz askFf.C := pn_num 8
theorem pn_askF8 : PNz askF8.C := pn_seq (pn_num 8) fun _ => pn_seq (pn_num 8) fun _ => pn_num 4
theorem pn_askF9 : PNz askF9.C := pn_seq (pn_num 8) fun _ => pn_seq (pn_num 8) fun _ => pn_data
theorem pn_askF10 : PNz askF10.C := pn_seq (pn_num 8) fun _ => pn_seq (pn_most 2 _ _) fun n => pn_seq (pn_zero 2) fun _ => pn_list pn_lock n.toNat
theorem pn_askF14 : PNz askF14.C := pn_seq (pn_num 8) fun _ => pn_seq (pn_num 2) fun _ => pn_seq (pn_zero 2) fun _ => pn_seq pn_text fun _ => pn_text
theorem pn_askF17 : PNz askF17.C := pn_seq (pn_num 8) fun _ => pn_seq (pn_chk (pn_num 2)) fun c => pn_cls c
theorem pn_askF18 : PNz askF18.C := pn_seq (pn_num 8) fun _ => pn_seq (pn_num 1) fun _ => pn_seq (pn_zero 1) fun _ => pn_zero 2
theorem pn_sayF0 : PNz sayF0.C := pn_seq (pn_num 2) fun _ => pn_seq (pn_zero 2) fun _ => pn_seq (pn_num 4) fun _ => pn_arr 8
theorem pn_sayFz : PNz sayFz.C := pn_zero 4
theorem pn_sayF5 : PNz sayF5.C := pn_seq (pn_num 1) fun _ => pn_seq (pn_num 1) fun _ => pn_seq (pn_most 2 _ _) fun _ => pn_seq (pn_num 8) fun _ => pn_seq (pn_num 8) fun _ => pn_seq (pn_most 2 _ _) fun _ => pn_zero 2
theorem pn_sayF8 : PNz sayF8.C := pn_data
theorem pn_sayF9 : PNz sayF9.C := pn_num 4
theorem pn_sayF14 : PNz sayF14.C := pn_seq (pn_most 2 _ _) fun n => pn_seq (pn_bool 2) fun _ => pn_list pn_ent n.toNat
theorem pn_sayF16 : PNz sayF16.C := pn_seq (pn_num 8) fun _ => pn_seq (pn_most 2 _ _) fun _ => pn_bool 2
theorem pn_sayF18 : PNz sayF18.C := pn_seq (pn_num 8) fun _ => pn_seq (pn_num 1) fun _ => pn_seq (pn_zero 1) fun _ => pn_zero 2
theorem askPut_nz {c : Int} {A : AskS} {e : Int} (h : askPut c A = .error e) : e ≠ 0 := by
  unfold askPut at h
  cases hF : askF c with
  | none => rw [hF] at h; exact nz_two h
  | some F =>
    rw [hF] at h
    refine F.pn ?_ h
    unfold askF at hF
    by_cases hc : c = 0
    · rw [if_pos hc] at hF
      obtain rfl := Option.some.inj hF
      exact pn_askF0
    · rw [if_neg hc] at hF
      clear hc
      by_cases hc : c = 1
      · rw [if_pos hc] at hF
        obtain rfl := Option.some.inj hF
        exact pn_askF1
      · rw [if_neg hc] at hF
        clear hc
        by_cases hc : c = 3
        · rw [if_pos hc] at hF
          obtain rfl := Option.some.inj hF
          exact pn_askF3
        · rw [if_neg hc] at hF
          clear hc
          by_cases hc : c = 2 ∨ c = 4 ∨ c = 12 ∨ c = 13
          · rw [if_pos hc] at hF
            obtain rfl := Option.some.inj hF
            exact pn_askFz
          · rw [if_neg hc] at hF
            clear hc
            by_cases hc : c = 5
            · rw [if_pos hc] at hF
              obtain rfl := Option.some.inj hF
              exact pn_askF5
            · rw [if_neg hc] at hF
              clear hc
              by_cases hc : c = 6 ∨ c = 7 ∨ c = 16
              · rw [if_pos hc] at hF
                obtain rfl := Option.some.inj hF
                exact pn_askFf
              · rw [if_neg hc] at hF
                clear hc
                by_cases hc : c = 8
                · rw [if_pos hc] at hF
                  obtain rfl := Option.some.inj hF
                  exact pn_askF8
                · rw [if_neg hc] at hF
                  clear hc
                  by_cases hc : c = 9
                  · rw [if_pos hc] at hF
                    obtain rfl := Option.some.inj hF
                    exact pn_askF9
                  · rw [if_neg hc] at hF
                    clear hc
                    by_cases hc : c = 10
                    · rw [if_pos hc] at hF
                      obtain rfl := Option.some.inj hF
                      exact pn_askF10
                    · rw [if_neg hc] at hF
                      clear hc
                      by_cases hc : c = 14
                      · rw [if_pos hc] at hF
                        obtain rfl := Option.some.inj hF
                        exact pn_askF14
                      · rw [if_neg hc] at hF
                        clear hc
                        by_cases hc : c = 17
                        · rw [if_pos hc] at hF
                          obtain rfl := Option.some.inj hF
                          exact pn_askF17
                        · rw [if_neg hc] at hF
                          clear hc
                          by_cases hc : c = 18
                          · rw [if_pos hc] at hF
                            obtain rfl := Option.some.inj hF
                            exact pn_askF18
                          · rw [if_neg hc] at hF
                            clear hc
                            cases hF
theorem sayPut_nz {c : Int} {A : SayS} {e : Int} (h : sayPut c A = .error e) : e ≠ 0 := by
  unfold sayPut at h
  cases hF : sayF c with
  | none => rw [hF] at h; exact nz_two h
  | some F =>
    rw [hF] at h
    refine F.pn ?_ h
    unfold sayF at hF
    by_cases hc : c = 0
    · rw [if_pos hc] at hF
      obtain rfl := Option.some.inj hF
      exact pn_sayF0
    · rw [if_neg hc] at hF
      clear hc
      by_cases hc : c = 1 ∨ c = 2 ∨ c = 3 ∨ c = 4 ∨ c = 13 ∨ c = 6 ∨ c = 7 ∨ c = 10 ∨ c = 17
      · rw [if_pos hc] at hF
        obtain rfl := Option.some.inj hF
        exact pn_sayFz
      · rw [if_neg hc] at hF
        clear hc
        by_cases hc : c = 5
        · rw [if_pos hc] at hF
          obtain rfl := Option.some.inj hF
          exact pn_sayF5
        · rw [if_neg hc] at hF
          clear hc
          by_cases hc : c = 8
          · rw [if_pos hc] at hF
            obtain rfl := Option.some.inj hF
            exact pn_sayF8
          · rw [if_neg hc] at hF
            clear hc
            by_cases hc : c = 9
            · rw [if_pos hc] at hF
              obtain rfl := Option.some.inj hF
              exact pn_sayF9
            · rw [if_neg hc] at hF
              clear hc
              by_cases hc : c = 14
              · rw [if_pos hc] at hF
                obtain rfl := Option.some.inj hF
                exact pn_sayF14
              · rw [if_neg hc] at hF
                clear hc
                by_cases hc : c = 16
                · rw [if_pos hc] at hF
                  obtain rfl := Option.some.inj hF
                  exact pn_sayF16
                · rw [if_neg hc] at hF
                  clear hc
                  by_cases hc : c = 18
                  · rw [if_pos hc] at hF
                    obtain rfl := Option.some.inj hF
                    exact pn_sayF18
                  · rw [if_neg hc] at hF
                    clear hc
                    cases hF
theorem bodyPut_nz {M : MsgS} {e : Int} (h : bodyPut M = .error e) : e ≠ 0 := by
  by_cases h1 : hasF M.head.flags 1
  · by_cases h2 : M.head.status = 0
    · rw [bodyPut_say h1 h2] at h; exact sayPut_nz h
    · rw [bodyPut_fault h1 h2] at h; cases h
  · rw [bodyPut_ask h1] at h; exact askPut_nz h
def PdI (w : World) (b1 base : Nat) (m : MsgV) (L : List UInt8) (P : Nat) (j : Nat) (ρ : Env) (W : World) : Prop :=
  ∃ (i : Nat) (v : Value), j = P - i ∧ i ≤ P ∧ ρ 4 = .pointer (some ⟨b1, 0, none⟩) ∧ ρ 7 = v ∧ Upd noB w W ∧ MsgAt W b1 m ∧ OwnB W base v (L ++ List.replicate i 0) ∧ base ≤ W.heap.size ∧ b1 < base
set_option maxHeartbeats 8000000 in
theorem put_any {m : MsgV} {M : MsgS} (hM : MsgAtR w m M) (ok : m.head.ok) (ga : AskG m.ask M.ask) (gs : SayG m.say M.say) (hT : Tabs w) :
    CallP Tryz.prog 12 #[.agg m.cells] w (fun r w' => Upd noB w w' ∧ PutR w' w.heap.size r (msgPut M)) := by
  have hf := ok.flags
  refine call_den (args := [_]) Tryz.func12 rfl rfl (by simp [Tryz.ntmps12]) ?_
  simp [go_sem]
  refine gen_call ?_
  intro W hW
  have hu : Upd noB w W := by rw [hW]; exact (by repeat (first | exact Upd.refl _ _ | refine Upd.alloc ?_ _ | refine Upd.drew ?_ | refine Upd.drewN ?_ _ | refine Upd.setB ?_ _ _ (fun h => absurd h (by omega))))
  have hb : MsgAt W (w.heap.size + 1) m := by unfold MsgAt; rw [hW, heap_alloc, if_pos (by simp)]
  have hlt : w.heap.size + 1 < W.heap.size := by rw [hW]; simp
  clear hW
  refine CallP.mono (headPut_any m.head ok W) ?_
  rintro r W2 ⟨u2, hres⟩
  have hu2 := hu.trans u2
  have hb2 : MsgAt W2 (w.heap.size + 1) m := u2.get hb (by simp [noB])
  have hb2' := hb2
  unfold MsgAt at hb2'
  by_cases hmay : mayL m.head = true
  · rw [if_pos hmay] at hres
    obtain ⟨v, rfl, own⟩ := hres
    simp [go_sem]
    refine CallP.mono (msgReply_any hb2 hf) ?_
    rintro r W3 ⟨rfl, hW3⟩
    rw [hW3]; clear hW3; clear W3
    by_cases hrep : hasF m.head.flags 1
    · simp [go_sem, hrep, hb2']
      refine CallP.mono (none_any ga.ok (hM.ask.keep hu2).lens ga.st) ?_
      rintro r W4 ⟨x, rfl, hx, u4⟩
      replace hx := hx.trans (none_iff hM.ask)
      cases x with
      | false =>
        simp [go_sem]
        rw [msgPut_no (fun h => by have := hx.2 (h.2.1 (by rw [hM.head]; exact hrep)); cases this)]
        exact ⟨hu2.trans u4, rfl⟩
      | true =>
        have hA := hx.1 rfl
        have hb4 : MsgAt W4 (w.heap.size + 1) m := u4.get hb2 (by simp [noB])
        have hb4' := hb4
        unfold MsgAt at hb4'
        simp [go_sem]
        refine CallP.mono (msgReply_any hb4 hf) ?_
        rintro r W5 ⟨rfl, hW5⟩
        rw [hW5]; clear hW5; clear W5
        simp [go_sem, hrep]
        refine CallP.mono (msgFault_any hb4 hf) ?_
        rintro r W5 ⟨rfl, hW5⟩
        rw [hW5]; clear hW5; clear W5
        by_cases hst : m.head.status = 0
        · have hidle : idle M := ⟨fun _ => hA, fun h => by rw [hM.head] at h; rcases h with h | h; exact absurd hrep h; exact absurd hst h⟩
          simp [go_sem, hrep, hst, hb4']
          obtain ⟨WX, hWX⟩ : ∃ WX, WX = W4 := ⟨_, rfl⟩
          rw [← hWX]
          have uX : Upd noB W2 WX := (by rw [hWX]; exact u4)
          have hbX : MsgAt WX (w.heap.size + 1) m := uX.get hb2 (by simp [noB])
          have huX := hu2.trans uX
          refine CallP.mono (body_any hbX ⟨hM.head, (hM.ask.keep huX), (hM.say.keep huX)⟩ ok (may_known hmay) ga gs (hT.keep0 huX)) ?_
          rintro r W7 ⟨u7, hr⟩
          rw [msgPut_yes (by rw [hM.head]; exact hmay) hidle]
          cases hbp : bodyPut M with
          | error e =>
            rw [hbp] at hr
            simp only [PutR] at hr
            subst hr
            have hz := bodyPut_nz hbp
            simp [go_sem, hz]
            exact ⟨huX.trans u7, rfl⟩
          | ok bd =>
            rw [hbp] at hr
            simp only [PutR] at hr
            obtain ⟨v2, rfl, own7⟩ := hr
            have hbl := bodyPut_len hbp
            have own' : OwnB W7 W.heap.size v (headB m.head) := own_keep0 (own_keep0 own uX) u7
            have hb7 : MsgAt W7 (w.heap.size + 1) m := u7.get hbX (by simp [noB])
            have hsz := u2.size
            have hszX := uX.size
            have hsz7 := u7.size
            have hbig : w.heap.size + 1 < W.heap.size := hlt
            obtain ⟨p3, n3, c3, W8, hrun, own8, u8⟩ := OwnB.appendN own' own7.at 31 (by rw [headB_len]; omega) (by omega)
            have hb8 : MsgAt W8 (w.heap.size + 1) m := u8.get hb7 (by omega)
            have hu8 : Upd noB w W8 := (huX.trans u7).trans' u8 (fun i hi hlt => by have := hu.size; omega)
            simp [go_sem, K_append_ok _ _ _ _ hrun]
            clear hrun own7 own' own u7 uX hb7 hbX hb2
            obtain ⟨L, hL⟩ : ∃ L, L = headB m.head ++ bd := ⟨_, rfl⟩
            have hLl : L.length = 64 + bd.length := by rw [hL, List.length_append, headB_len]
            rw [← hL] at own8
            have hfin : headB M.head ++ (bd ++ padOf M.head (64 + bd.length)) = L ++ List.replicate (padC m.head L.length) 0 := by rw [← List.append_assoc, hM.head, ← hL, padC_eq, hLl]
            have hpl : padC m.head L.length ≤ 7 := by unfold padC padN; split <;> omega
            refine den_loop (PdI w (w.heap.size + 1) W.heap.size m L (padC m.head L.length)) (padC m.head L.length) ?_ ?_
            · exact ⟨0, .slice p3 n3 c3, rfl, Nat.zero_le _, by simp [go_sem], by simp [go_sem], hu8, hb8, by simpa using own8, by have := u8.size; omega, hbig⟩
            clear own8 u8 hb8 hu8
            rintro j ρ W9 ⟨i, v9, rfl, hi, g4, g7, hu9, hb9, own9, hbase9, hbb⟩
            have hb9' := hb9
            unfold MsgAt at hb9'
            have hlen : (L ++ List.replicate i 0).length = L.length + i := by simp
            obtain ⟨p9, c9, rfl, hc9⟩ := own9.at.len
            rw [hlen] at g7 hc9 own9
            have hnx := ok.next
            have hrm : ((L.length : Int) + (i : Int)).tmod 8 = (((L.length + i) % 8 : Nat) : Int) := by rw [← Int.natCast_add]; rfl
            by_cases hlt : i < padC m.head L.length
            · have hnz : ¬ m.head.next = 0 := by intro h; unfold padC at hlt; rw [if_pos h] at hlt; omega
              have hpos : 0 < m.head.next := by omega
              have hmod : ¬ (L.length + i) % 8 = 0 := by unfold padC padN at hlt; rw [if_neg hnz] at hlt; omega
              have hmodI : ¬ (((L.length + i) % 8 : Nat) : Int) = 0 := by omega
              have hb1 : ∀ (w : World) (k : Value → World → Prop), K_buildSlice Tryz.prog 31 1 #[(0, .int .u8 0)] w k = k (.slice (some ⟨w.heap.size, 0, none⟩) 1 1) (w.alloc (.cells ([0].map u8V).toArray 5)) := fun w k => slByte.build1K (P := Tryz.prog) (w := w) (u8V 0) rfl (by decide) k
              have hne : (((L.length : Int) + (i : Int)).tmod 8 != 0) = true := by rw [hrm]; simp; omega
              simp [go_sem, g4, g7, hb9', hpos, hne, hb1]
              refine gen_append ?_
              intro Wa hWa
              have ua : Upd noB W9 Wa := by rw [hWa]; exact (Upd.refl _ _).alloc _
              have src : BytesAt Wa (.slice (some ⟨W9.heap.size, 0, none⟩) 1 1) [0] := by rw [hWa]; exact (fresh_bytes [0] W9 (by simp)).at
              clear hWa
              have own9a : OwnB Wa W.heap.size (.slice p9 (L.length + i) c9) (L ++ List.replicate i 0) := own_keep0 own9 ua
              obtain ⟨pz, nz, cz, Wz, hrunz, ownz, uz⟩ := OwnB.appendN own9a src 31 (by rw [hlen]; simp; omega) (by have := ua.size; omega)
              simp [K_append_ok _ _ _ _ hrunz, go_sem]
              refine ⟨padC m.head L.length - (i + 1), by omega, i + 1, .slice pz nz cz, rfl, by omega, by simp [go_sem, g4], by simp [go_sem], (hu9.trans ua).trans' uz (fun k hk hlt => by have := hu.size; omega), uz.get (ua.get hb9' (fun h => h)) (by omega), ?_, by have := ua.size; have := uz.size; omega, hbb⟩
              rw [List.replicate_succ', ← List.append_assoc]
              exact ownz
            · obtain rfl : i = padC m.head L.length := by omega
              by_cases hnz : m.head.next = 0
              · simp [go_sem, g4, g7, hb9', hnz]
                refine ⟨hu9, _, rfl, ?_⟩
                rw [hfin]
                exact own_base own9 hu.size
              · have hpos : 0 < m.head.next := by omega
                have hmod : (L.length + padC m.head L.length) % 8 = 0 := by unfold padC padN; rw [if_neg hnz]; omega
                have hne : (((L.length : Int) + (padC m.head L.length : Int)).tmod 8 != 0) = false := by rw [hrm, hmod]; rfl
                simp [go_sem, g4, g7, hb9', hpos, hne]
                refine ⟨hu9, _, rfl, ?_⟩
                rw [hfin]
                exact own_base own9 hu.size
        · simp [go_sem, hrep, hst, hb4']
          refine CallP.mono (silent_any gs.ok (hM.say.keep (hu2.trans u4)).lens) ?_
          rintro r W6 ⟨x, rfl, hx, u6⟩
          replace hx := hx.trans (silent_iff hM.say)
          cases x with
          | false =>
            simp [go_sem]
            rw [msgPut_no (fun h => by have := hx.2 (h.2.2 (Or.inr (by rw [hM.head]; exact hst))); cases this)]
            exact ⟨(hu2.trans u4).trans u6, rfl⟩
          | true =>
            have hidle : idle M := ⟨fun _ => hA, fun _ => hx.1 rfl⟩
            simp [go_sem]
            obtain ⟨WX, hWX⟩ : ∃ WX, WX = W6 := ⟨_, rfl⟩
            rw [← hWX]
            have uX : Upd noB W2 WX := (by rw [hWX]; exact u4.trans u6)
            have hbX : MsgAt WX (w.heap.size + 1) m := uX.get hb2 (by simp [noB])
            have huX := hu2.trans uX
            refine CallP.mono (body_any hbX ⟨hM.head, (hM.ask.keep huX), (hM.say.keep huX)⟩ ok (may_known hmay) ga gs (hT.keep0 huX)) ?_
            rintro r W7 ⟨u7, hr⟩
            rw [msgPut_yes (by rw [hM.head]; exact hmay) hidle]
            cases hbp : bodyPut M with
            | error e =>
              rw [hbp] at hr
              simp only [PutR] at hr
              subst hr
              have hz := bodyPut_nz hbp
              simp [go_sem, hz]
              exact ⟨huX.trans u7, rfl⟩
            | ok bd =>
              rw [hbp] at hr
              simp only [PutR] at hr
              obtain ⟨v2, rfl, own7⟩ := hr
              have hbl := bodyPut_len hbp
              have own' : OwnB W7 W.heap.size v (headB m.head) := own_keep0 (own_keep0 own uX) u7
              have hb7 : MsgAt W7 (w.heap.size + 1) m := u7.get hbX (by simp [noB])
              have hsz := u2.size
              have hszX := uX.size
              have hsz7 := u7.size
              have hbig : w.heap.size + 1 < W.heap.size := hlt
              obtain ⟨p3, n3, c3, W8, hrun, own8, u8⟩ := OwnB.appendN own' own7.at 31 (by rw [headB_len]; omega) (by omega)
              have hb8 : MsgAt W8 (w.heap.size + 1) m := u8.get hb7 (by omega)
              have hu8 : Upd noB w W8 := (huX.trans u7).trans' u8 (fun i hi hlt => by have := hu.size; omega)
              simp [go_sem, K_append_ok _ _ _ _ hrun]
              clear hrun own7 own' own u7 uX hb7 hbX hb2
              obtain ⟨L, hL⟩ : ∃ L, L = headB m.head ++ bd := ⟨_, rfl⟩
              have hLl : L.length = 64 + bd.length := by rw [hL, List.length_append, headB_len]
              rw [← hL] at own8
              have hfin : headB M.head ++ (bd ++ padOf M.head (64 + bd.length)) = L ++ List.replicate (padC m.head L.length) 0 := by rw [← List.append_assoc, hM.head, ← hL, padC_eq, hLl]
              have hpl : padC m.head L.length ≤ 7 := by unfold padC padN; split <;> omega
              refine den_loop (PdI w (w.heap.size + 1) W.heap.size m L (padC m.head L.length)) (padC m.head L.length) ?_ ?_
              · exact ⟨0, .slice p3 n3 c3, rfl, Nat.zero_le _, by simp [go_sem], by simp [go_sem], hu8, hb8, by simpa using own8, by have := u8.size; omega, hbig⟩
              clear own8 u8 hb8 hu8
              rintro j ρ W9 ⟨i, v9, rfl, hi, g4, g7, hu9, hb9, own9, hbase9, hbb⟩
              have hb9' := hb9
              unfold MsgAt at hb9'
              have hlen : (L ++ List.replicate i 0).length = L.length + i := by simp
              obtain ⟨p9, c9, rfl, hc9⟩ := own9.at.len
              rw [hlen] at g7 hc9 own9
              have hnx := ok.next
              have hrm : ((L.length : Int) + (i : Int)).tmod 8 = (((L.length + i) % 8 : Nat) : Int) := by rw [← Int.natCast_add]; rfl
              by_cases hlt : i < padC m.head L.length
              · have hnz : ¬ m.head.next = 0 := by intro h; unfold padC at hlt; rw [if_pos h] at hlt; omega
                have hpos : 0 < m.head.next := by omega
                have hmod : ¬ (L.length + i) % 8 = 0 := by unfold padC padN at hlt; rw [if_neg hnz] at hlt; omega
                have hmodI : ¬ (((L.length + i) % 8 : Nat) : Int) = 0 := by omega
                have hb1 : ∀ (w : World) (k : Value → World → Prop), K_buildSlice Tryz.prog 31 1 #[(0, .int .u8 0)] w k = k (.slice (some ⟨w.heap.size, 0, none⟩) 1 1) (w.alloc (.cells ([0].map u8V).toArray 5)) := fun w k => slByte.build1K (P := Tryz.prog) (w := w) (u8V 0) rfl (by decide) k
                have hne : (((L.length : Int) + (i : Int)).tmod 8 != 0) = true := by rw [hrm]; simp; omega
                simp [go_sem, g4, g7, hb9', hpos, hne, hb1]
                refine gen_append ?_
                intro Wa hWa
                have ua : Upd noB W9 Wa := by rw [hWa]; exact (Upd.refl _ _).alloc _
                have src : BytesAt Wa (.slice (some ⟨W9.heap.size, 0, none⟩) 1 1) [0] := by rw [hWa]; exact (fresh_bytes [0] W9 (by simp)).at
                clear hWa
                have own9a : OwnB Wa W.heap.size (.slice p9 (L.length + i) c9) (L ++ List.replicate i 0) := own_keep0 own9 ua
                obtain ⟨pz, nz, cz, Wz, hrunz, ownz, uz⟩ := OwnB.appendN own9a src 31 (by rw [hlen]; simp; omega) (by have := ua.size; omega)
                simp [K_append_ok _ _ _ _ hrunz, go_sem]
                refine ⟨padC m.head L.length - (i + 1), by omega, i + 1, .slice pz nz cz, rfl, by omega, by simp [go_sem, g4], by simp [go_sem], (hu9.trans ua).trans' uz (fun k hk hlt => by have := hu.size; omega), uz.get (ua.get hb9' (fun h => h)) (by omega), ?_, by have := ua.size; have := uz.size; omega, hbb⟩
                rw [List.replicate_succ', ← List.append_assoc]
                exact ownz
              · obtain rfl : i = padC m.head L.length := by omega
                by_cases hnz : m.head.next = 0
                · simp [go_sem, g4, g7, hb9', hnz]
                  refine ⟨hu9, _, rfl, ?_⟩
                  rw [hfin]
                  exact own_base own9 hu.size
                · have hpos : 0 < m.head.next := by omega
                  have hmod : (L.length + padC m.head L.length) % 8 = 0 := by unfold padC padN; rw [if_neg hnz]; omega
                  have hne : (((L.length : Int) + (padC m.head L.length : Int)).tmod 8 != 0) = false := by rw [hrm, hmod]; rfl
                  simp [go_sem, g4, g7, hb9', hpos, hne]
                  refine ⟨hu9, _, rfl, ?_⟩
                  rw [hfin]
                  exact own_base own9 hu.size
    · simp [go_sem, hrep, hb2']
      refine CallP.mono (msgReply_any hb2 hf) ?_
      rintro r W5 ⟨rfl, hW5⟩
      rw [hW5]; clear hW5; clear W5
      simp [go_sem, hrep, hb2']
      refine CallP.mono (silent_any gs.ok (hM.say.keep hu2).lens) ?_
      rintro r W6 ⟨x, rfl, hx, u6⟩
      replace hx := hx.trans (silent_iff hM.say)
      cases x with
      | false =>
        simp [go_sem]
        rw [msgPut_no (fun h => by have := hx.2 (h.2.2 (Or.inl (by rw [hM.head]; exact hrep))); cases this)]
        exact ⟨hu2.trans u6, rfl⟩
      | true =>
        have hidle : idle M := ⟨fun h => absurd (by rw [hM.head] at h; exact h) hrep, fun _ => hx.1 rfl⟩
        have hb6 : MsgAt W6 (w.heap.size + 1) m := u6.get hb2 (by simp [noB])
        simp [go_sem]
        refine CallP.mono (msgFault_any hb6 hf) ?_
        rintro r W5 ⟨rfl, hW5⟩
        rw [hW5]; clear hW5; clear W5
        simp [go_sem, hrep]
        obtain ⟨WX, hWX⟩ : ∃ WX, WX = W6 := ⟨_, rfl⟩
        rw [← hWX]
        have uX : Upd noB W2 WX := (by rw [hWX]; exact u6)
        have hbX : MsgAt WX (w.heap.size + 1) m := uX.get hb2 (by simp [noB])
        have huX := hu2.trans uX
        refine CallP.mono (body_any hbX ⟨hM.head, (hM.ask.keep huX), (hM.say.keep huX)⟩ ok (may_known hmay) ga gs (hT.keep0 huX)) ?_
        rintro r W7 ⟨u7, hr⟩
        rw [msgPut_yes (by rw [hM.head]; exact hmay) hidle]
        cases hbp : bodyPut M with
        | error e =>
          rw [hbp] at hr
          simp only [PutR] at hr
          subst hr
          have hz := bodyPut_nz hbp
          simp [go_sem, hz]
          exact ⟨huX.trans u7, rfl⟩
        | ok bd =>
          rw [hbp] at hr
          simp only [PutR] at hr
          obtain ⟨v2, rfl, own7⟩ := hr
          have hbl := bodyPut_len hbp
          have own' : OwnB W7 W.heap.size v (headB m.head) := own_keep0 (own_keep0 own uX) u7
          have hb7 : MsgAt W7 (w.heap.size + 1) m := u7.get hbX (by simp [noB])
          have hsz := u2.size
          have hszX := uX.size
          have hsz7 := u7.size
          have hbig : w.heap.size + 1 < W.heap.size := hlt
          obtain ⟨p3, n3, c3, W8, hrun, own8, u8⟩ := OwnB.appendN own' own7.at 31 (by rw [headB_len]; omega) (by omega)
          have hb8 : MsgAt W8 (w.heap.size + 1) m := u8.get hb7 (by omega)
          have hu8 : Upd noB w W8 := (huX.trans u7).trans' u8 (fun i hi hlt => by have := hu.size; omega)
          simp [go_sem, K_append_ok _ _ _ _ hrun]
          clear hrun own7 own' own u7 uX hb7 hbX hb2
          obtain ⟨L, hL⟩ : ∃ L, L = headB m.head ++ bd := ⟨_, rfl⟩
          have hLl : L.length = 64 + bd.length := by rw [hL, List.length_append, headB_len]
          rw [← hL] at own8
          have hfin : headB M.head ++ (bd ++ padOf M.head (64 + bd.length)) = L ++ List.replicate (padC m.head L.length) 0 := by rw [← List.append_assoc, hM.head, ← hL, padC_eq, hLl]
          have hpl : padC m.head L.length ≤ 7 := by unfold padC padN; split <;> omega
          refine den_loop (PdI w (w.heap.size + 1) W.heap.size m L (padC m.head L.length)) (padC m.head L.length) ?_ ?_
          · exact ⟨0, .slice p3 n3 c3, rfl, Nat.zero_le _, by simp [go_sem], by simp [go_sem], hu8, hb8, by simpa using own8, by have := u8.size; omega, hbig⟩
          clear own8 u8 hb8 hu8
          rintro j ρ W9 ⟨i, v9, rfl, hi, g4, g7, hu9, hb9, own9, hbase9, hbb⟩
          have hb9' := hb9
          unfold MsgAt at hb9'
          have hlen : (L ++ List.replicate i 0).length = L.length + i := by simp
          obtain ⟨p9, c9, rfl, hc9⟩ := own9.at.len
          rw [hlen] at g7 hc9 own9
          have hnx := ok.next
          have hrm : ((L.length : Int) + (i : Int)).tmod 8 = (((L.length + i) % 8 : Nat) : Int) := by rw [← Int.natCast_add]; rfl
          by_cases hlt : i < padC m.head L.length
          · have hnz : ¬ m.head.next = 0 := by intro h; unfold padC at hlt; rw [if_pos h] at hlt; omega
            have hpos : 0 < m.head.next := by omega
            have hmod : ¬ (L.length + i) % 8 = 0 := by unfold padC padN at hlt; rw [if_neg hnz] at hlt; omega
            have hmodI : ¬ (((L.length + i) % 8 : Nat) : Int) = 0 := by omega
            have hb1 : ∀ (w : World) (k : Value → World → Prop), K_buildSlice Tryz.prog 31 1 #[(0, .int .u8 0)] w k = k (.slice (some ⟨w.heap.size, 0, none⟩) 1 1) (w.alloc (.cells ([0].map u8V).toArray 5)) := fun w k => slByte.build1K (P := Tryz.prog) (w := w) (u8V 0) rfl (by decide) k
            have hne : (((L.length : Int) + (i : Int)).tmod 8 != 0) = true := by rw [hrm]; simp; omega
            simp [go_sem, g4, g7, hb9', hpos, hne, hb1]
            refine gen_append ?_
            intro Wa hWa
            have ua : Upd noB W9 Wa := by rw [hWa]; exact (Upd.refl _ _).alloc _
            have src : BytesAt Wa (.slice (some ⟨W9.heap.size, 0, none⟩) 1 1) [0] := by rw [hWa]; exact (fresh_bytes [0] W9 (by simp)).at
            clear hWa
            have own9a : OwnB Wa W.heap.size (.slice p9 (L.length + i) c9) (L ++ List.replicate i 0) := own_keep0 own9 ua
            obtain ⟨pz, nz, cz, Wz, hrunz, ownz, uz⟩ := OwnB.appendN own9a src 31 (by rw [hlen]; simp; omega) (by have := ua.size; omega)
            simp [K_append_ok _ _ _ _ hrunz, go_sem]
            refine ⟨padC m.head L.length - (i + 1), by omega, i + 1, .slice pz nz cz, rfl, by omega, by simp [go_sem, g4], by simp [go_sem], (hu9.trans ua).trans' uz (fun k hk hlt => by have := hu.size; omega), uz.get (ua.get hb9' (fun h => h)) (by omega), ?_, by have := ua.size; have := uz.size; omega, hbb⟩
            rw [List.replicate_succ', ← List.append_assoc]
            exact ownz
          · obtain rfl : i = padC m.head L.length := by omega
            by_cases hnz : m.head.next = 0
            · simp [go_sem, g4, g7, hb9', hnz]
              refine ⟨hu9, _, rfl, ?_⟩
              rw [hfin]
              exact own_base own9 hu.size
            · have hpos : 0 < m.head.next := by omega
              have hmod : (L.length + padC m.head L.length) % 8 = 0 := by unfold padC padN; rw [if_neg hnz]; omega
              have hne : (((L.length : Int) + (padC m.head L.length : Int)).tmod 8 != 0) = false := by rw [hrm, hmod]; rfl
              simp [go_sem, g4, g7, hb9', hpos, hne]
              refine ⟨hu9, _, rfl, ?_⟩
              rw [hfin]
              exact own_base own9 hu.size
  · rw [if_neg hmay] at hres
    subst hres
    simp [go_sem]
    rw [msgPut_no (fun h => hmay (by rw [← hM.head]; exact h.1))]
    exact ⟨hu2, rfl⟩
end Go.Proofs.YtinfdomlpbikaaaGreatDoor
namespace Go.Proofs.YtinfdomlpbikaaaGreatDoor
open Go.Eng Go.Lib
set_option linter.unusedSimpArgs false
set_option linter.unusedVariables false
set_option maxRecDepth 100000
variable {w w0 : World}
theorem msgPut_len {M : MsgS} {b : List UInt8} (h : msgPut M = .ok b) : b.length ≤ 50000 ∧ (M.head.next = 0 ∨ b.length % 8 = 0) := by
  unfold msgPut at h
  split at h
  · cases hb : bodyPut M with
    | error e => rw [hb] at h; cases h
    | ok c =>
      rw [hb] at h
      injection h with h
      subst h
      have hc := bodyPut_len hb
      have hp : (padOf M.head (64 + c.length)).length = padC M.head (64 + c.length) := by rw [padC_eq]; simp
      have hl : (headB M.head ++ c ++ padOf M.head (64 + c.length)).length = 64 + c.length + padC M.head (64 + c.length) := by rw [List.length_append, List.length_append, headB_len, hp]
      rw [hl]
      unfold padC padN
      split
      · rename_i h0; exact ⟨by omega, Or.inl h0⟩
      · exact ⟨by omega, Or.inr (by omega)⟩
  · cases h
end Go.Proofs.YtinfdomlpbikaaaGreatDoor
namespace Go.Proofs.YtinfdomlpbikaaaGreatDoor
open Go Go.Eng Go.Lib
set_option linter.unusedSimpArgs false
set_option linter.unusedVariables false
set_option maxRecDepth 100000
theorem u8Extra : U8Extra Tryz.prog Tryz.validL_ren := ⟨by kernel_rfl, by kernel_rfl, by kernel_rfl, by kernel_rfl, by kernel_rfl, by kernel_rfl, by kernel_rfl⟩
theorem laid_eq : ([("unicode/utf8.acceptRanges", Rows.laid_unicode_utf8_acceptRanges), ("unicode/utf8.first", Rows.laid_unicode_utf8_first)] : List (String × DataW Unit)) = [("unicode/utf8.acceptRanges", acceptData), ("unicode/utf8.first", firstData)] := by
  have e1 : (Rows.laid_unicode_utf8_acceptRanges : DataW Unit) = acceptData := by kernel_rfl
  have e2 : Rows.laid_unicode_utf8_first = firstData := Pinned.utf8First_eq
  rw [e1, e2]
theorem tabs_of_laid {w : World} (h : laidMet Tryz.prog [("unicode/utf8.acceptRanges", Rows.laid_unicode_utf8_acceptRanges), ("unicode/utf8.first", Rows.laid_unicode_utf8_first)] w) : Tabs w := by
  rw [laid_eq] at h
  obtain ⟨ps, hl, _⟩ := h
  exact utf8Tabs_of_readsT (U8Types.of196 Tryz.validL) u8Extra (LaidVars_reads hl _ _ (by simp)) (LaidVars_reads hl _ _ (by simp))
end Go.Proofs.YtinfdomlpbikaaaGreatDoor
namespace Go.Proofs.YtinfdomlpbikaaaGreatDoor
open Go.Eng Go.Lib
set_option linter.unusedSimpArgs false
set_option linter.unusedVariables false
set_option maxRecDepth 100000
variable {w w0 : World}
/-- an own copy of a row -/
theorem copy_row {t e : TypeId} {size bytes : Nat} (T : SlT Tryz.prog t e size bytes) {s : Value} {m : Nat} {news : List Value} (src : RowAt w size s m news) (ty : TypeId) (h1 : ∀ u ∈ news, u.oneCell' = true) (hroom : m * bytes ≤ 140737488355328) (hmax : m ≤ maxLen) (h8 : e = 5 → ∀ u ∈ news, IsU8 u := by first | exact fun h => absurd h (by decide) | exact fun _ => u8_is _) :
    ∃ p n c w', (Builtin.append_ #[t, t] ty #[.slice none 0 0, s]).run Tryz.prog w = .ok (.slice p n c) w' ∧ RowAt w' size (.slice p n c) m news ∧ n ≤ c ∧ (∀ b, (Value.slice p n c).ownBlock = some b → w.heap.size ≤ b) ∧ Upd noB w w' := by
  obtain ⟨v', w', hrun, own, hg, _⟩ := sl_append_at T (World.ownsX_nil w w.heap.size e size) src ty h1 (by rw [Nat.zero_add]; exact hroom) (by omega) (Nat.le_refl _) h8
  rw [Nat.zero_add, List.nil_append] at own
  have hr := RowAt.of_own own
  have hc := capOk_own own
  obtain ⟨p, c, rfl⟩ := hr.len
  exact ⟨p, m, c, w', hrun, hr, hc, fun b hb => (own.lt b hb).1, (Upd.refl _ _).grown hg (fun b hb => by cases hb)⟩
theorem u16_one (L : List Int) : ∀ u ∈ L.map u16V, u.oneCell' = true := by
  intro u hu
  obtain ⟨x, _, rfl⟩ := List.mem_map.1 hu
  rfl
theorem lock_one (L : List LockV) : ∀ u ∈ L.flatMap LockV.row, u.oneCell' = true := by
  intro u hu
  obtain ⟨x, _, hx⟩ := List.mem_flatMap.1 hu
  simp [LockV.row] at hx
  rcases hx with rfl | rfl | rfl | rfl <;> rfl
theorem ent_one (L : List EntV) : ∀ u ∈ L.flatMap EntV.row, u.oneCell' = true := by
  intro u hu
  obtain ⟨x, _, hx⟩ := List.mem_flatMap.1 hu
  simp [EntV.row] at hx
  rcases hx with rfl | rfl | rfl <;> rfl
theorem refCopy_any {s : Value} {l : List UInt8} (hb : BytesAt w s l) (hl : l.length ≤ 1099511627776) :
    CallP Tryz.prog 25 #[s] w (fun v w' => ∃ p n c, v = .slice p n c ∧ BytesAt w' (.slice p n c) l ∧ Upd noB w w' ∧ OwnB w' w.heap.size (.slice p n c) l) := by
  refine call_den (args := [_]) Tryz.func25 rfl rfl (by simp [Tryz.ntmps25]) ?_
  obtain ⟨p, n, c, w', hrun, own, u⟩ := OwnB.appendN (w := w) (base := w.heap.size) (l := []) (nil_own _ _) hb 31 (by simp; omega) (Nat.le_refl _)
  simp [go_sem, K_append_ok _ _ _ _ hrun]
  have own' : OwnB w' w.heap.size (.slice p n c) l := by simpa using own
  exact ⟨_, _, _, ⟨rfl, rfl, rfl⟩, own'.at, (Upd.refl _ _).trans' u (fun i hi hlt => by omega), own'⟩
theorem copyLocks_any {s : Value} {L : List LockV} (h : RowAt w 4 s L.length (L.flatMap LockV.row)) (hl : L.length ≤ 1099511627776) :
    CallP Tryz.prog 53 #[s] w (fun v w' => ∃ p n c, v = .slice p n c ∧ RowAt w' 4 (.slice p n c) L.length (L.flatMap LockV.row) ∧ Upd noB w w' ∧ (∀ b, (Value.slice p n c).ownBlock = some b → w.heap.size ≤ b)) := by
  refine call_den (args := [_]) Tryz.func53 rfl rfl (by simp [Tryz.ntmps53]) ?_
  obtain ⟨p, n, c, w', hrun, hr, hc, hob, u⟩ := copy_row slLock h 32 (lock_one L) (by omega) (by simp [maxLen]; omega)
  simp [go_sem, K_append_ok _ _ _ _ hrun]
  exact ⟨_, _, _, ⟨rfl, rfl, rfl⟩, hr, u, hob⟩
set_option maxHeartbeats 4000000 in
theorem copyAsk_any {a : AskV} {A : AskS} (ha : AskAt w a A) : CallP Tryz.prog 31 #[.agg a.cells] w (fun r w' => ∃ X : AskV, r = .agg X.cells ∧ X.bare = a.bare ∧ AskAt w' X A ∧ Upd noB w w' ∧ ∀ S W', (∀ i, S i → i < w.heap.size + 1) → Upd S w' W' → AskAt W' X A) := by
  refine call_den (args := [_]) Tryz.func31 rfl rfl (by simp [Tryz.ntmps31]) ?_
  simp [go_sem]
  refine gen_append ?_
  intro W hW
  have g : TQ w W (w.heap.size + 1) w.heap.size zeroA a := by rw [hW]; exact ⟨(by repeat (first | exact Upd.refl _ _ | refine Upd.alloc ?_ _ | refine Upd.drew ?_ | refine Upd.drewN ?_ _ | refine Upd.setB ?_ _ _ (fun h => absurd h (by omega)))), (by simp only [heap_setB, heap_alloc, heap_drew, heap_drewN, size_setB, World.size_alloc]; (repeat (first | rw [if_pos trivial] | rw [if_pos (by omega)] | rw [if_neg (by omega)])); try rfl), (by simp only [heap_setB, heap_alloc, heap_drew, heap_drewN, size_setB, World.size_alloc]; (repeat (first | rw [if_pos trivial] | rw [if_pos (by omega)] | rw [if_neg (by omega)])); try rfl), by omega, by omega, by omega⟩
  clear hW
  generalize hb2 : w.heap.size + 1 = b2 at g ⊢
  generalize hba : w.heap.size = ba at g ⊢
  have hd := (ha.keep g.u).dia
  have hlo : ba < W.heap.size ∧ b2 < W.heap.size := ⟨(Array.getElem?_eq_some_iff.1 g.qx).1, (Array.getElem?_eq_some_iff.1 g.qa).1⟩
  obtain ⟨p1, n1, c1, W1, hrun, r1, hc1, ho1, u1⟩ := copy_row slU16 hd 29 (u16_one _) (by have := ha.dl; omega) (by have := ha.dl; simp [maxLen]; omega)
  replace g := g.keep u1
  simp [go_sem, K_append_ok _ _ _ _ hrun, g.qx]
  refine gen_call ?_
  intro W2 hW
  have s2 : Upd (fun i => i = ba ∨ i = b2) W1 W2 := by rw [hW]; exact (Upd.refl _ _).setB _ _ (fun _ => Or.inl rfl)
  replace g := g.set (AskV.mk ⟨p1, n1, c1⟩ a.guid a.proof a.user a.share a.access a.sharing a.way a.options a.level a.durable a.file a.name a.at_ a.n a.data a.locks a.most a.pattern a.after a.cls a.size_ a.on) hW
  clear hW
  refine CallP.mono (refCopy_any (ha.keep g.u).dat ha.tl) ?_
  rintro v W3 ⟨p3, n3, c3, rfl, b3, u3, o3⟩
  replace g := g.keep u3
  simp [go_sem, g.qx]
  refine gen_call ?_
  intro W4 hW
  have s4 : Upd (fun i => i = ba ∨ i = b2) W3 W4 := by rw [hW]; exact (Upd.refl _ _).setB _ _ (fun _ => Or.inl rfl)
  replace g := g.set (AskV.mk ⟨p1, n1, c1⟩ a.guid a.proof a.user a.share a.access a.sharing a.way a.options a.level a.durable a.file a.name a.at_ a.n ⟨p3, n3, c3⟩ a.locks a.most a.pattern a.after a.cls a.size_ a.on) hW
  clear hW
  refine CallP.mono (copyLocks_any (ha.keep g.u).lok ha.ll) ?_
  rintro v W5 ⟨p5, n5, c5, rfl, r5, u5, o5⟩
  replace g := g.keep u5
  have hne := g.ne.1
  simp [go_sem, g.qx, g.qa, heap_setB, hne]
  have s6 : ∀ o o', Upd (fun i => i = ba ∨ i = b2) W5 ((W5.setB ba o).setB b2 o') := fun o o' => ((Upd.refl _ _).setB _ _ (fun _ => Or.inl rfl)).setB _ _ (fun _ => Or.inr rfl)
  have m3 : Upd (fun i => i = ba ∨ i = b2) W2 W3 := u3.mono (fun _ _ h => h.elim)
  have m5 : Upd (fun i => i = ba ∨ i = b2) W4 W5 := u5.mono (fun _ _ h => h.elim)
  have z1 := u1.size
  have z2 := s2.size
  have z3 := u3.size
  have z4 := s4.size
  have hX := fun o o' => (⟨ha.f, r1.keep ((((s2.trans m3).trans s4).trans m5).trans (s6 o o')) (fun b hb h => by have := ho1 b hb; omega), b3.keep ((s4.trans m5).trans (s6 o o')) (fun b hb h => by have := (o3.lt b hb).1; omega), r5.keep (s6 o o') (fun b hb h => by have := o5 b hb; omega), ha.dl, ha.tl, ha.ll⟩ : AskAt _ (AskV.mk ⟨p1, n1, c1⟩ a.guid a.proof a.user a.share a.access a.sharing a.way a.options a.level a.durable a.file a.name a.at_ a.n ⟨p3, n3, c3⟩ ⟨p5, n5, c5⟩ a.most a.pattern a.after a.cls a.size_ a.on) A)
  refine ⟨(AskV.mk ⟨p1, n1, c1⟩ a.guid a.proof a.user a.share a.access a.sharing a.way a.options a.level a.durable a.file a.name a.at_ a.n ⟨p3, n3, c3⟩ ⟨p5, n5, c5⟩ a.most a.pattern a.after a.cls a.size_ a.on), rfl, rfl, hX _ _, (g.u.setB _ _ (fun h => absurd h (by have := g.ne; omega))).setB _ _ (fun h => absurd h (by have := g.ne; omega)), ?_⟩
  intro S W' hS u
  exact ⟨ha.f, (hX _ _).dia.keep u (fun b hb h => by have := ho1 b hb; have := hS b h; omega), (hX _ _).dat.keep u (fun b hb h => by have := (o3.lt b hb).1; have := hS b h; omega), (hX _ _).lok.keep u (fun b hb h => by have := o5 b hb; have := hS b h; omega), ha.dl, ha.tl, ha.ll⟩
set_option maxHeartbeats 4000000 in
theorem copySay_any {a : SayV} {A : SayS} (ha : SayAt w a A) : CallP Tryz.prog 32 #[.agg a.cells] w (fun r w' => ∃ X : SayV, r = .agg X.cells ∧ X.bare = a.bare ∧ SayAt w' X A ∧ Upd noB w w' ∧ ∀ S W', (∀ i, S i → i < w.heap.size + 1) → Upd S w' W' → SayAt W' X A) := by
  refine call_den (args := [_]) Tryz.func32 rfl rfl (by simp [Tryz.ntmps32]) ?_
  simp [go_sem]
  refine gen_call ?_
  intro W hW
  have g : SQ w W (w.heap.size + 1) w.heap.size zeroS a := by rw [hW]; exact ⟨(by repeat (first | exact Upd.refl _ _ | refine Upd.alloc ?_ _ | refine Upd.drew ?_ | refine Upd.drewN ?_ _ | refine Upd.setB ?_ _ _ (fun h => absurd h (by omega)))), (by simp only [heap_setB, heap_alloc, heap_drew, heap_drewN, size_setB, World.size_alloc]; (repeat (first | rw [if_pos trivial] | rw [if_pos (by omega)] | rw [if_neg (by omega)])); try rfl), (by simp only [heap_setB, heap_alloc, heap_drew, heap_drewN, size_setB, World.size_alloc]; (repeat (first | rw [if_pos trivial] | rw [if_pos (by omega)] | rw [if_neg (by omega)])); try rfl), by omega, by omega, by omega⟩
  clear hW
  generalize hb2 : w.heap.size + 1 = b2 at g ⊢
  generalize hba : w.heap.size = ba at g ⊢
  have hlo : ba < W.heap.size ∧ b2 < W.heap.size := ⟨(Array.getElem?_eq_some_iff.1 g.qx).1, (Array.getElem?_eq_some_iff.1 g.qa).1⟩
  refine CallP.mono (refCopy_any (ha.keep g.u).dat ha.tl) ?_
  rintro v W3 ⟨p3, n3, c3, rfl, b3, u3, o3⟩
  replace g := g.keep u3
  simp [go_sem, g.qx]
  refine gen_append ?_
  intro W4 hW
  have s4 : Upd (fun i => i = ba ∨ i = b2) W3 W4 := by rw [hW]; exact (Upd.refl _ _).setB _ _ (fun _ => Or.inl rfl)
  replace g := g.set (SayV.mk a.dialect a.size_ a.challenge a.level a.durable a.made a.file a.kind ⟨p3, n3, c3⟩ a.n a.entries a.more a.gone) hW
  clear hW
  have hd := (ha.keep g.u).ent
  obtain ⟨p1, n1, c1, W5, hrun, r1, hc1, ho1, u5⟩ := copy_row slEnt hd 37 (ent_one _) (by have := ha.el; omega) (by have := ha.el; simp [maxLen]; omega)
  replace g := g.keep u5
  have hne := g.ne.1
  simp [go_sem, K_append_ok _ _ _ _ hrun, g.qx, g.qa, heap_setB, hne]
  have s6 : ∀ o o', Upd (fun i => i = ba ∨ i = b2) W5 ((W5.setB ba o).setB b2 o') := fun o o' => ((Upd.refl _ _).setB _ _ (fun _ => Or.inl rfl)).setB _ _ (fun _ => Or.inr rfl)
  have m5 : Upd (fun i => i = ba ∨ i = b2) W4 W5 := u5.mono (fun _ _ h => h.elim)
  have z3 := u3.size
  have z4 := s4.size
  have hX := fun o o' => (⟨ha.f, b3.keep ((s4.trans m5).trans (s6 o o')) (fun b hb h => by have := (o3.lt b hb).1; omega), r1.keep (s6 o o') (fun b hb h => by have := ho1 b hb; omega), ha.tl, ha.el⟩ : SayAt _ (SayV.mk a.dialect a.size_ a.challenge a.level a.durable a.made a.file a.kind ⟨p3, n3, c3⟩ a.n ⟨p1, n1, c1⟩ a.more a.gone) A)
  refine ⟨(SayV.mk a.dialect a.size_ a.challenge a.level a.durable a.made a.file a.kind ⟨p3, n3, c3⟩ a.n ⟨p1, n1, c1⟩ a.more a.gone), rfl, rfl, hX _ _, (g.u.setB _ _ (fun h => absurd h (by have := g.ne; omega))).setB _ _ (fun h => absurd h (by have := g.ne; omega)), ?_⟩
  intro S W' hS u
  exact ⟨ha.f, (hX _ _).dat.keep u (fun b hb h => by have := (o3.lt b hb).1; have := hS b h; omega), (hX _ _).ent.keep u (fun b hb h => by have := ho1 b hb; have := hS b h; omega), ha.tl, ha.el⟩
end Go.Proofs.YtinfdomlpbikaaaGreatDoor
namespace Go.Proofs.YtinfdomlpbikaaaGreatDoor
open Go.Eng Go.Lib
set_option linter.unusedSimpArgs false
set_option linter.unusedVariables false
set_option maxRecDepth 100000
variable {w w0 : World}
def MsgC (b : Nat) (m : MsgV) (W : World) : Prop := W.heap[b]? = some (.cells m.cells 41 (0, 0))
set_option maxHeartbeats 4000000 in
theorem msgCopy_any {m : MsgV} {M : MsgS} (hM : MsgAtR w m M) : CallP Tryz.prog 11 #[.agg m.cells] w (fun r w' => ∃ x : MsgV, r = .agg x.cells ∧ x.head = m.head ∧ x.ask.bare = m.ask.bare ∧ x.say.bare = m.say.bare ∧ MsgAtR w' x M ∧ Upd noB w w') := by
  refine call_den (args := [_]) Tryz.func11 rfl rfl (by simp [Tryz.ntmps11]) ?_
  simp [go_sem]
  refine gen_draw ?_
  intro W hW
  have hu : Upd noB w W := by rw [hW]; exact (by repeat (first | exact Upd.refl _ _ | refine Upd.alloc ?_ _ | refine Upd.drew ?_ | refine Upd.drewN ?_ _ | refine Upd.setB ?_ _ _ (fun h => absurd h (by omega))))
  have qm : MsgC w.heap.size m W := by unfold MsgC; rw [hW]; exact (by simp only [heap_setB, heap_alloc, heap_drew, heap_drewN, size_setB, World.size_alloc]; (repeat (first | rw [if_pos trivial] | rw [if_pos (by omega)] | rw [if_neg (by omega)])); try rfl)
  have hx : W.heap[w.heap.size + 1]? = some (.cells zeroM.cells 41 (0, 0)) := by rw [hW]; exact (by simp only [heap_setB, heap_alloc, heap_drew, heap_drewN, size_setB, World.size_alloc]; (repeat (first | rw [if_pos trivial] | rw [if_pos (by omega)] | rw [if_neg (by omega)])); try rfl)
  clear hW
  have hne : w.heap.size ≠ w.heap.size + 1 := by omega
  have hge : w.heap.size ≤ w.heap.size + 1 := by omega
  generalize w.heap.size + 1 = bx at *
  generalize hba : w.heap.size = ba at qm hne hge ⊢
  refine Go.Eng.Ch.draw_script [.pure 0, .pure 2, .pure 5, .chain [1, 3, 6] [4, 7], .one 8, .one 9] (by kernel_rfl) (by kernel_rfl) (by kernel_rfl) ?_
  simp [go_sem]
  replace hu := hu.drew
  have qm1 : MsgC ba m W.drew := qm
  have hx1 : W.drew.heap[bx]? = some (.cells zeroM.cells 41 (0, 0)) := hx
  obtain ⟨W1, hW1⟩ : ∃ W1, W1 = W.drew := ⟨_, rfl⟩
  rw [← hW1] at hu qm1 hx1 ⊢
  clear hW1 qm hx
  haveI : Nonempty { W : World // MsgC ba m W } := ⟨⟨W1, qm1⟩⟩
  have q0 : ∀ i : { W : World // MsgC ba m W }, (Instr.loadAt 28 (.pointer (some ⟨ba, 0, none⟩))).run Tryz.prog i.1 = .ok (.agg m.head.cells) i.1 := fun i => loadAt_cut (Tryz.isAgg28 _) (Tryz.sizeOf28 _) (by rw [show i.1.heap[ba]? = _ from i.2]; exact msg_cut0 m _ _)
  have q1 : ∀ i : { W : World // MsgC ba m W }, (Instr.loadAt 34 (.pointer (some ⟨ba, 26, none⟩))).run Tryz.prog i.1 = .ok (.agg m.ask.cells) i.1 := fun i => loadAt_cut (Tryz.isAgg34 _) (Tryz.sizeOf34 _) (by rw [show i.1.heap[ba]? = _ from i.2]; exact msg_cut1 m _ _)
  have q2 : ∀ i : { W : World // MsgC ba m W }, (Instr.loadAt 39 (.pointer (some ⟨ba, 95, none⟩))).run Tryz.prog i.1 = .ok (.agg m.say.cells) i.1 := fun i => loadAt_cut (Tryz.isAgg39 _) (Tryz.sizeOf39 _) (by rw [show i.1.heap[ba]? = _ from i.2]; exact msg_cut2 m _ _)
  refine Go.Eng.Ch.opsPh_chain _ _ (MsgC ba m) qm1 ?_
  simp [go_sem, Q_load_fix q0, Q_load_fix q1, Q_load_fix q2]
  refine CallP.mono (copyAsk_any (hM.ask.keep hu)) ?_
  rintro v W2 ⟨xa, rfl, ea, ha, u2, ka⟩
  have qm2 : MsgC ba m W2 := u2.get qm1 (by simp [noB])
  have hx2 := u2.get hx1 (by simp [noB])
  simp [go_sem, Go.Eng.Ch.contJ_app qm2]
  refine CallP.mono (copySay_any (hM.say.keep (hu.trans u2))) ?_
  rintro v W3 ⟨xs, rfl, es, hs, u3, ks⟩
  have qm3 : MsgC ba m W3 := u3.get qm2 (by simp [noB])
  have hx3 := u3.get hx2 (by simp [noB])
  have ha3 := ha.keep u3
  have hu3 := (hu.trans u2).trans u3
  simp [go_sem, Go.Eng.Ch.contJ_app qm3, hx3]
  refine ⟨⟨m.head, xa, xs⟩, ?_, rfl, ea, es, ?_, ?_⟩
  · rfl
  · have hlt1 : bx < W1.heap.size := (Array.getElem?_eq_some_iff.1 hx1).1
    have hlt2 : bx < W2.heap.size := (Array.getElem?_eq_some_iff.1 hx2).1
    refine ⟨hM.head, ka (fun i => i = bx) _ (fun i hi => by omega) ((u3.mono (fun _ _ h => h.elim)).setB _ _ (fun _ => rfl)), ks (fun i => i = bx) _ (fun i hi => by omega) ((Upd.refl _ _).setB _ _ (fun _ => rfl))⟩
  · exact hu3.setB _ _ (fun h => absurd h (by omega))
/-- what Spoil may write over: nothing, or a block of bytes from its start to its end -/
def Spl (w : World) (v : Value) : Prop := v = .slice none 0 0 ∨ ∃ g n cap cur, v = .slice (some ⟨g, 0, none⟩) n cap ∧ w.heap[g]? = some (.cells cur 5 (0, 0)) ∧ cur.size = cap ∧ cap ≤ maxLen ∧ ∀ u ∈ cur.toList, IsU8 u
theorem Spl.of_own {base : Nat} {v : Value} {l : List UInt8} (own : OwnB w base v l) : Spl w v := by
  rcases own.row.2 with ⟨rfl, _⟩ | ⟨g, cap, cur, rfl, hbg, hg, hnc, hcm, hcs, htake⟩
  · exact Or.inl rfl
  · exact Or.inr ⟨g, _, cap, cur, rfl, hg, by omega, hcm, own.full rfl g cur _ rfl hg⟩
def SpI (w : World) (g cap : Nat) (m : Nat) (ρ : Env) (W : World) : Prop :=
  ∃ (i : Nat) (cur : Array Value), m = cap - i ∧ i ≤ cap ∧ ρ 0 = .slice (some ⟨g, 0, none⟩) cap cap ∧ ρ 1 = .int .u8 5 ∧ ρ 4 = .int .i64 i ∧ W.heap[g]? = some (.cells cur 5 (0, 0)) ∧ cur.size = cap ∧ (∀ u ∈ cur.toList, IsU8 u) ∧ Upd (fun i => i = g) w W
theorem xor5 (b : UInt8) : ∃ c : UInt8, bits .xor .u8 ((b.toNat : Nat) : Int) 5 = ((c.toNat : Nat) : Int) := by
  have h := u8_xor_nat b.toNat 5 (by have := b.toNat_lt; omega) (by decide)
  refine ⟨UInt8.ofNat (b.toNat ^^^ 5), ?_⟩
  have h2 : b.toNat ^^^ 5 < 2 ^ 8 := Nat.xor_lt_two_pow (by have := b.toNat_lt; omega) (by decide)
  have h3 : (UInt8.ofNat (b.toNat ^^^ 5)).toNat = b.toNat ^^^ 5 := by rw [UInt8.toNat_ofNat']; exact Nat.mod_eq_of_lt h2
  rw [h3]
  exact h
set_option maxHeartbeats 4000000 in
theorem spoil_any {v : Value} (h : Spl w v) : CallP Tryz.prog 26 #[v, .int .u8 5] w (fun r w' => Upd (fun i => v.ownBlock = some i) w w' ∧ ∀ v', Spl w v' → Spl w' v') := by
  refine call_den (args := [_, _]) Tryz.func26 rfl rfl (by simp [Tryz.ntmps26]) ?_
  rcases h with rfl | ⟨g, n, cap, cur, rfl, hg, hcs, hcm, hall⟩
  · simp [go_sem]
    refine den_loop (fun _ ρ W => W = w ∧ ρ 0 = .slice none 0 0 ∧ ρ 4 = .int .i64 0) 0 ⟨rfl, by simp [go_sem], by simp [go_sem]⟩ ?_
    rintro m ρ W ⟨rfl, g0, g4⟩
    simp [go_sem, g0, g4]
    exact Upd.refl _ _
  · simp [go_sem]
    refine den_loop (SpI w g cap) cap ?_ ?_
    · exact ⟨0, cur, rfl, Nat.zero_le _, by simp [go_sem], by simp [go_sem], by simp [go_sem], hg, hcs, hall, Upd.refl _ _⟩
    clear hall
    rintro m ρ W ⟨i, cu, rfl, hi, g0, g1, g4, hgw, hsz, hal, hu⟩
    by_cases hlt : i < cap
    · have hi2 : ∀ W kk, (Instr.indexAt 31 (.slice (some ⟨g, 0, none⟩) cap cap) (.int kk i)).run Tryz.prog W = .ok (.pointer (some ⟨g, i, none⟩)) W := by
        intro W kk
        simp [Instr.indexAt, asIntOf, run_underlying Tryz.underlying31, Tryz.sizeOf5, hlt, addr_add]
      have hz : i < cu.size := by omega
      obtain ⟨b, hb⟩ := hal _ (Array.getElem_mem_toList hz)
      obtain ⟨c, hc⟩ := xor5 b
      have hget : cu[i]? = some (.int .u8 ((b.toNat : Nat) : Int)) := by rw [Array.getElem?_eq_getElem hz, hb]
      have hwr : IntKind.i64.wrap ((i : Int) + 1) = ((i + 1 : Nat) : Int) := wrap64_id (by simp only [maxLen] at hcm; omega) (by simp only [maxLen] at hcm; omega)
      simp [go_sem, g0, g1, g4, hlt, hi2, hgw, hget, hb, hc, hz]
      refine ⟨cap - (i + 1), by omega, i + 1, cu.setIfInBounds i (.int .u8 ((c.toNat : Nat) : Int)), rfl, by omega, by simp [go_sem, g0], by simp [go_sem, g1], by simp [go_sem, hwr], ?_, by simp [hsz], ?_, hu.setB _ _ (fun _ => rfl)⟩
      · rw [heap_setB, if_pos rfl, hgw]; rfl
      · intro u hu'
        obtain ⟨j, hj, rfl⟩ := List.mem_iff_getElem.1 hu'
        have h2 := List.getElem?_eq_getElem hj
        rw [Array.getElem?_toList, Array.getElem?_setIfInBounds] at h2
        split at h2
        · injection h2 with h2
          rw [← h2]
          exact ⟨c, rfl⟩
        · exact hal _ (by rw [← Array.getElem?_toList] at h2; exact List.mem_of_getElem? h2)
    · obtain rfl : i = cap := by omega
      simp [go_sem, g0, g1, g4]
      refine ⟨hu.mono (fun j _ hj => by rw [hj]; rfl), ?_⟩
      rintro v' (rfl | ⟨g', n', cap', cur', rfl, hg', hcs', hcm', hall'⟩)
      · exact Or.inl rfl
      · by_cases hgg : g' = g
        · subst hgg
          rw [hg] at hg'
          cases hg'
          exact Or.inr ⟨g', n', _, cu, rfl, hgw, by rw [hsz, ← hcs, hcs'], hcm', hal⟩
        · exact Or.inr ⟨g', n', cap', cur', rfl, hu.get hg' hgg, hcs', hcm', hall'⟩
end Go.Proofs.YtinfdomlpbikaaaGreatDoor
namespace Go.Proofs.YtinfdomlpbikaaaGreatDoor
open Go.Eng Go.Lib
set_option linter.unusedSimpArgs false
set_option linter.unusedVariables false
set_option maxRecDepth 100000
variable {w w0 : World}
theorem AskG.of_bare {x a : AskV} {A : AskS} (h : AskG a A) (e : x.bare = a.bare) : AskG x A := by
  have h1 := h.ok
  have h2 := h.st
  have h3 : a.bare.ok := ⟨h1.1, h1.2, h1.3, h1.4, h1.5, h1.6, h1.7, h1.8, h1.9, h1.10, h1.11, h1.12⟩
  have h4 : a.bare.strs := ⟨h2.1, h2.2, h2.3, h2.4, h2.5⟩
  rw [← e] at h3 h4
  exact ⟨⟨h3.1, h3.2, h3.3, h3.4, h3.5, h3.6, h3.7, h3.8, h3.9, h3.10, h3.11, h3.12⟩, ⟨h4.1, h4.2, h4.3, h4.4, h4.5⟩, h.dia, h.lok⟩
theorem SayG.of_bare {x a : SayV} {A : SayS} (h : SayG a A) (e : x.bare = a.bare) : SayG x A := by
  have h1 := h.ok
  have h3 : a.bare.ok := ⟨h1.1, h1.2, h1.3, h1.4, h1.5, h1.6, h1.7, h1.8⟩
  rw [← e] at h3
  exact ⟨⟨h3.1, h3.2, h3.3, h3.4, h3.5, h3.6, h3.7, h3.8⟩, h.ent⟩
set_option maxHeartbeats 4000000 in
theorem msgFresh_any {m : MsgV} {M : MsgS} (hM : MsgAtR w m M) (ok : m.head.ok) (ga : AskG m.ask M.ask) (gs : SayG m.say M.say) (hT : Tabs w) :
    CallP Tryz.prog 8 #[.agg m.cells] w (fun r w' => r = .bool true ∧ Upd noB w w') := by
  refine call_den (args := [_]) Tryz.func8 rfl rfl (by simp [Tryz.ntmps8]) ?_
  simp [go_sem]
  refine gen_call ?_
  intro W hW
  have hu : Upd noB w W := by rw [hW]; exact (Upd.refl _ _).alloc _
  have hb : W.heap[w.heap.size]? = some (.cells m.cells 41 (0, 0)) := by rw [hW, heap_alloc, if_pos rfl]
  clear hW
  generalize w.heap.size = bm at hb ⊢
  have hM0 : MsgAtR W m M := ⟨hM.head, hM.ask.keep hu, hM.say.keep hu⟩
  refine CallP.mono (msgCopy_any hM0) ?_
  rintro r W1 ⟨x, rfl, eh, ea, es, hx, u1⟩
  have hu1 := hu.trans u1
  have hb1 := u1.get hb (by simp [noB])
  have okx : x.head.ok := by rw [eh]; exact ok
  have gax := ga.of_bare ea
  have gsx := gs.of_bare es
  simp [go_sem]
  refine gen_call ?_
  intro W2 hW
  have u2 : Upd noB W1 W2 := by rw [hW]; exact ((Upd.refl _ _).alloc _).setB _ _ (fun h => absurd h (by omega))
  have hc2 : W2.heap[W1.heap.size]? = some (.cells x.cells 41 (0, 0)) := by rw [hW, heap_setB, if_pos rfl, heap_alloc, if_pos rfl]; rfl
  have hb2 := u2.get hb1 (by simp [noB])
  have hx2 := hx.keep u2
  have hu2 := hu1.trans u2
  clear hW hb1 hb
  generalize W1.heap.size = bx at *
  refine CallP.mono (put_any hx2 okx gax gsx (hT.keep0 hu2)) ?_
  rintro r W3 ⟨u3, hr⟩
  cases hp : msgPut M with
  | error e =>
    rw [hp] at hr
    simp only [PutR] at hr
    subst hr
    have hz : e ≠ 0 := by
      unfold msgPut at hp
      split at hp
      · cases hq : bodyPut M with
        | error e' => rw [hq] at hp; injection hp with hp; subst hp; exact bodyPut_nz hq
        | ok c => rw [hq] at hp; cases hp
      · injection hp with hp; omega
    simp [go_sem, hz]
    refine CallP.mono (lives_any _) ?_
    rintro r W8 ⟨rfl, u8⟩
    simp [go_sem]
    exact (hu2.trans u3).trans u8
  | ok bd =>
    rw [hp] at hr
    simp only [PutR] at hr
    obtain ⟨v, rfl, own⟩ := hr
    obtain ⟨hbl, h8⟩ := msgPut_len hp
    have hbt := own.at
    obtain ⟨p, c, rfl, hc⟩ := hbt.len
    simp [go_sem]
    refine CallP.mono (refCopy_any hbt (by omega)) ?_
    rintro r W4 ⟨dp, dn, dc, rfl, hd, u4, ownd⟩
    simp [go_sem]
    have own4 := own_keep0 own u4
    refine CallP.mono (msgGetP_any (hbt.keep0 u4) (by omega)) ?_
    rintro r W5 ⟨u5, hr⟩
    have hgb := (msg_back (by rw [hx.head]; exact okx) hp).1
    rw [hgb] at hr
    obtain ⟨n, rfl, hown⟩ := hr
    have own5 := own_keep0 own4 u5
    have ownd5 := own_keep0 ownd u5
    simp [go_sem]
    refine gen_call ?_
    intro W6 hW
    have u6 : Upd noB W5 W6 := by rw [hW]; exact ((Upd.refl _ _).alloc _).setB _ _ (fun h => absurd h (by omega))
    have hn6 : W6.heap[W5.heap.size]? = some (.cells n.cells 41 (0, 0)) := by rw [hW, heap_setB, if_pos rfl, heap_alloc, if_pos rfl]; rfl
    have sz6 : W5.heap.size < W6.heap.size := (Array.getElem?_eq_some_iff.1 hn6).1
    clear hW
    have hB := own5.lt
    have hD := ownd5.lt
    have sz3 : W2.heap.size ≤ W3.heap.size := u3.size
    have sz4 : W3.heap.size ≤ W4.heap.size := u4.size
    have sz5 : W4.heap.size ≤ W5.heap.size := u5.size
    have spb := (Spl.of_own (own_keep0 own5 u6))
    have spa := (Spl.of_own (own_keep0 hown.ask.dat u6))
    have sps := (Spl.of_own (own_keep0 hown.say.dat u6))
    have hA := hown.ask.dat.lt
    have hS := hown.say.dat.lt
    refine CallP.mono (spoil_any spb) ?_
    rintro r W7 ⟨u7, k7⟩
    have hB3 : ∀ k, (Value.slice p bd.length c).ownBlock = some k → W2.heap.size ≤ k ∧ k < W3.heap.size := own.lt
    have hD4 : ∀ k, (Value.slice dp dn dc).ownBlock = some k → W3.heap.size ≤ k ∧ k < W4.heap.size := ownd.lt
    have ownd6 := own_keep0 ownd5 u6
    have ownd7 := own_keep ownd6 u7 (fun b hb hb' => by have := hB3 b hb'; have := hD4 b hb; omega)
    have hn7 := u7.get hn6 (fun hb' => by have := hB3 _ hb'; omega)
    generalize W5.heap.size = bn at *
    simp [go_sem, hn7]
    refine CallP.mono (spoil_any (k7 _ spa)) ?_
    rintro r W8 ⟨u8, k8⟩
    have ownd8 := own_keep ownd7 u8 (fun b hb hb' => by have := (hA b hb').1; have := hD4 b hb; omega)
    have hn8 := u8.get hn7 (fun hb' => by have := (hA _ hb').2; omega)
    simp [go_sem, hn8]
    refine CallP.mono (spoil_any (k8 _ (k7 _ sps))) ?_
    rintro r W9 ⟨u9, k9⟩
    have ownd9 := own_keep ownd8 u9 (fun b hb hb' => by have := (hS b hb').1; have := hD4 b hb; omega)
    have hk : Upd noB W2 W9 := (((((((u3.trans u4).trans u5).trans u6).trans' u7 (fun i hi hlt => by have := hB3 i hi; omega)).trans' u8 (fun i hi hlt => by have := (hA i hi).1; omega))).trans' u9 (fun i hi hlt => by have := (hS i hi).1; omega))
    have hc9 := hk.get hc2 (by simp [noB])
    have hb9 := hk.get hb2 (by simp [noB])
    have hu9 := hu2.trans hk
    simp [go_sem, hc9]
    refine CallP.mono (put_any (hx2.keep hk) okx gax gsx (hT.keep0 hu9)) ?_
    rintro r W10 ⟨u10, hr⟩
    rw [hp] at hr
    simp only [PutR] at hr
    obtain ⟨v2, rfl, own2⟩ := hr
    have hd10 := OwnB.at (own_keep0 ownd9 u10)
    simp [go_sem]
    refine CallP.mono (sameB_any own2.at.1 hd10.1 (by omega)) ?_
    rintro r W11 ⟨y, rfl, hy, u11⟩
    obtain rfl := hy.2 rfl
    have hc11 := u11.get (u10.get hc9 (by simp [noB])) (by simp [noB])
    have hb11 := u11.get (u10.get hb9 (by simp [noB])) (by simp [noB])
    have hu11 := (hu9.trans u10).trans u11
    simp [go_sem, hc11, hb11]
    refine CallP.mono (same_any (((hx2.keep hk).keep u10).keep u11) (MsgAtR.keep hM hu11)) ?_
    rintro r W12 ⟨z, rfl, hz, u12⟩
    obtain rfl := hz.2 rfl
    simp [go_sem]
    refine CallP.mono (lives_any _) ?_
    rintro r W13 ⟨rfl, u13⟩
    simp [go_sem]
    exact (hu11.trans u12).trans u13
end Go.Proofs.YtinfdomlpbikaaaGreatDoor
