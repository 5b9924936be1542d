/-
  What is said about files, put by the program.
  What a List says, put by the program.
  A message's body, put by the program.
  How long a body is that can be put.
  A message, put by the program.
  What is got may stand where it stands.
  MsgOnce answers true, and writes no memory that was there, of whatever bytes.
  Go's tables of UTF-8 lie as the row lists them.
-/
import Derived.Test.YtinfdomlpbikaaaGreatDoorBack1
import Derived.Test.YtinfdomlpbikaaaGreatDoorBack2
import Derived.Test.YtinfdomlpbikaaaGreatDoorBack3
import Derived.Test.YtinfdomlpbikaaaGreatDoorBack4
import Derived.Test.YtinfdomlpbikaaaGreatDoorBack5
import Derived.Test.YtinfdomlpbikaaaGreatDoorBack6
import Derived.Test.YtinfdomlpbikaaaGreatDoorBack7
import Derived.Test.YtinfdomlpbikaaaGreatDoorBack8
import Derived.Test.YtinfdomlpbikaaaGreatDoorBack9
import Derived.Test.YtinfdomlpbikaaaGreatDoorBack10
import Derived.WalkKit
import Derived.Deep.Quiet
import Derived.StillTail
import Derived.WalkSpells
import Derived.ProofKit
import Derived.ChangeSame
import Derived.Deep.Slices
import Derived.Carry
import Derived.OpenShut
import Derived.OrdersHeld
import Derived.Test.YtinfdomlpbikaaaGreatDoorProg
import Derived.ChangeKeysEq
import Derived.Laws.Bits64b
import Derived.Lib.ValidLaws
import Derived.Maps.AppendAt
import Derived.Shelf.Unicode.ValidAny
import Derived.Ground.NamesProg
import Derived.Laws.RangeAny
import Derived.Laws.BitsAllLaws
import Derived.Laws.IdiomStrings
import Derived.Lib.LazyBuf
import Derived.Shelf.Spec.SlicesGrow
import Derived.Test.YtinfdomlpbikaaaGreatDoorRows
import Derived.Lib.LaidU8T
import Derived.PinnedBridge
namespace Go.Proofs.YtinfdomlpbikaaaGreatDoor
open Go Go.Eng Go.ChangeShapes Go.WideShapes Go.RowKit
set_option linter.unusedSimpArgs false
set_option linter.unusedVariables false
set_option maxRecDepth 100000
section
variable {H : Type} {enc : TypeId × Value → H} {w : World} {held : Bool} {fuel : Nat} {cs : List Value} {x : DataW H × List MemPlace}
theorem arg_bytes {r : Reach} {b0 : Nat} {t e : TypeId} {v : Value} {d : DataW H} {ps : List MemPlace} (ht : Tryz.prog.underlying t = some (.slice e)) (he : Tryz.prog.underlying e = some (.int .u8)) (hc : Tryz.prog.cellsOf e = 1)
    (hval : Value.okWide Tryz.prog w r b0 t v) (hd : DataW.Trod enc Tryz.prog w 0 (fun _ => true) held t v d ps) : ∃ l, BytesAt w v l ∧ (l = [] ∨ ∃ elems spare, d = .slice elems spare ∧ elems.length = l.length) := by
  obtain ⟨a, len, cap, rfl⟩ := okWide_slice ht hval
  obtain ⟨fuel, hf⟩ := hd
  obtain ⟨v, l, hv, hb, hl⟩ := open_bytes ht he hc hf
  simp [Value.cells] at hv
  subst hv
  exact ⟨l, hb, hl⟩
theorem arg_b {r : Reach} {b0 : Nat} {v : Value} {d : DataW H} {ps : List MemPlace} (hval : Value.okWide Tryz.prog w r b0 31 v) (hd : DataW.Trod enc Tryz.prog w 0 (fun _ => true) held 31 v d ps) :
    ∃ l, BytesAt w v l ∧ (l = [] ∨ ∃ elems spare, d = .slice elems spare ∧ elems.length = l.length) := arg_bytes Tryz.underlying31 Tryz.underlying5 (by kernel_rfl) hval hd
end
end Go.Proofs.YtinfdomlpbikaaaGreatDoor

namespace Go.Proofs.YtinfdomlpbikaaaGreatDoor
open Go.Eng Go.Lib
set_option linter.unusedSimpArgs false
set_option linter.unusedVariables false
set_option maxRecDepth 100000
variable {w : World}
theorem strOf_size (l : List UInt8) : (strOf l).size = l.length := by simp [strOf, ByteArray.size]
end Go.Proofs.YtinfdomlpbikaaaGreatDoor

namespace Go.Proofs.YtinfdomlpbikaaaGreatDoor
open Go.Eng
set_option linter.unusedSimpArgs false
set_option linter.unusedVariables false
set_option maxRecDepth 100000
variable {w w0 : World}
theorem getH_sign (l : List UInt8) (a : Nat) (h : a + 64 ≤ l.length) : (getH l a).sign.1 = cutL l (a + 48) 16 := by
  have hs : (cutL l (a + 48) 16).length = 16 := cutL_len l (a + 48) 16 (by omega)
  simp only [getH]
  rw [dif_pos hs]
end Go.Proofs.YtinfdomlpbikaaaGreatDoor

namespace Go.Proofs.YtinfdomlpbikaaaGreatDoor
open Go Go.Eng
set_option linter.unusedSimpArgs false
set_option linter.unusedVariables false
--BEGIN
/-! ### heads -/
theorem leB_cut (l : List UInt8) (n k : Nat) (h : n + k ≤ l.length) : leB ((numAt l n k : Nat) : Int).toNat k = cutL l n k := by
  have := leB_numB (cutL l n k)
  rw [cutL_len l n k h] at this
  rw [Int.toNat_natCast]
  exact this
theorem take_cut (l : List UInt8) (n k : Nat) : l.take n ++ cutL l n k = l.take (n + k) := by
  unfold cutL
  rw [← List.take_add]
theorem headPut_get {l : List UInt8} {h : HeadV} (hg : headGetS l = .ok h) : mayL h = true ∧ h.ok ∧ headB h = l.take 64 ∧ 64 ≤ l.length := by
  unfold headGetS at hg
  split at hg
  · cases hg
  · rename_i hlen
    split at hg
    · cases hg
    · rename_i hb
      injection hg with hg
      subst hg
      unfold badH at hb
      simp at hb
      obtain ⟨b0, b4, bm, bz⟩ := hb
      refine ⟨bm, getH_ok l 0, ?_, by omega⟩
      have hs := getH_sign l 0 (by omega)
      unfold headB headA
      rw [hs]
      have e0 : ([0xfe, 0x53, 0x4d, 0x42] : List UInt8) = l.take 4 := by
        have e1 : leB (1112364030 : Int).toNat 4 = [0xfe, 0x53, 0x4d, 0x42] := by decide
        have := leB_cut l 0 4 (by omega)
        rw [b0] at this
        have e2 : (((1112364030 : Nat) : Int)).toNat = (1112364030 : Int).toNat := rfl
        rw [e2, e1] at this
        rw [this]
        rfl
      have e4 : leB 64 2 = cutL l 4 2 := by
        have := leB_cut l 4 2 (by omega)
        rw [b4] at this
        exact this
      have ea : asyncB (getH l 0) = cutL l 32 8 := by
        unfold asyncB
        by_cases hf : hasF (getH l 0).flags 2
        · rw [if_pos hf]
          have : (getH l 0).async = numAt l 32 8 := by
            have hf' : hasF (numAt l (0 + 16) 4) 2 := hf
            simp only [getH]
            rw [if_pos hf']
          rw [this]
          exact leB_cut l 32 8 (by omega)
        · rw [if_neg hf]
          have hf' : ¬ hasF (numAt l (0 + 16) 4) 2 := hf
          have : (getH l 0).tree = numAt l 36 4 := by
            simp only [getH]
            rw [if_neg hf']
          have hz := bz (by simpa using hf')
          rw [this, leB_cut l 36 4 (by omega)]
          have h0 := leB_cut l 32 4 (by omega)
          rw [hz] at h0
          have e : leB 0 4 = cutL l 32 4 := h0
          rw [e]
          unfold cutL
          rw [show l.drop 36 = (l.drop 32).drop 4 by rw [List.drop_drop], ← List.take_add]
      rw [e0, e4, ea]
      simp only [getH, Nat.zero_add]
      rw [leB_cut l 6 2 (by omega), leB_cut l 8 4 (by omega), leB_cut l 12 2 (by omega), leB_cut l 14 2 (by omega), leB_cut l 16 4 (by omega), leB_cut l 20 4 (by omega), leB_cut l 24 8 (by omega), leB_cut l 40 8 (by omega)]
      simp only [take_cut, Nat.reduceAdd]
/-! ### messages -/
theorem body_once {h : HeadV} {l : List UInt8} {m : MsgS} (hg : bodyGet h l = .ok m) : m.head = h ∧ idle m ∧ bodyPut m = .ok l := by
  unfold bodyGet at hg
  by_cases hr : hasF h.flags 1
  · rw [if_pos hr] at hg
    by_cases hs : h.status ≠ 0
    · rw [if_pos hs] at hg
      split at hg
      · cases hg
      · split at hg
        · rename_i hl
          injection hg with hg
          subst hg
          refine ⟨rfl, ⟨fun _ => rfl, fun _ => rfl⟩, ?_⟩
          unfold bodyPut
          simp only
          rw [if_pos hr, if_pos hs, hl]
        · cases hg
    · rw [if_neg hs] at hg
      split at hg
      · rename_i F hF
        split at hg
        · rename_i s hget
          injection hg with hg
          subst hg
          refine ⟨rfl, ⟨fun _ => rfl, fun hx => ?_⟩, ?_⟩
          · exact absurd hx (by simp only; intro hx; rcases hx with hx | hx; exact hx hr; exact hs hx)
          · unfold bodyPut
            simp only
            rw [if_pos hr, if_neg hs, hF]
            exact F.once hget
        · cases hg
      · cases hg
  · rw [if_neg hr] at hg
    split at hg
    · rename_i F hF
      split at hg
      · rename_i s hget
        injection hg with hg
        subst hg
        refine ⟨rfl, ⟨fun hx => absurd hx hr, fun _ => rfl⟩, ?_⟩
        unfold bodyPut
        simp only
        rw [if_neg hr, hF]
        exact F.once hget
      · cases hg
    · cases hg
theorem zeros_eq : ∀ {l : List UInt8}, zeros l = true → l = List.replicate l.length 0
  | [], _ => rfl
  | x :: l, h => by
    simp [zeros] at h
    have := zeros_eq (l := l) (by simp [zeros]; exact h.2)
    rw [List.length_cons, List.replicate_succ, ← this, h.1]
theorem msg_once {l : List UInt8} {m : MsgS} (h : msgGet l = .ok m) : msgPut m = .ok l ∧ m.head.ok := by
  unfold msgGet at h
  split at h
  · cases h
  · rename_i hd hh
    obtain ⟨g1, g2, g3, g4⟩ := headPut_get hh
    by_cases hn : hd.next = 0
    · rw [if_pos hn] at h
      obtain ⟨rfl, hi, hp⟩ := body_once h
      refine ⟨?_, g2⟩
      unfold msgPut
      rw [if_pos ⟨g1, hi⟩, hp]
      simp only
      unfold padOf
      rw [if_pos hn, List.append_nil, g3, List.take_append_drop]
    · rw [if_neg hn] at h
      split at h
      · split at h <;> cases h
      · rename_i h8
        split at h
        · rename_i m' hf
          injection h with h
          subst h
          obtain ⟨k, h1, h2, h3, h4, h5⟩ := find_is 8 0 hf
          obtain ⟨rfl, hi, hp⟩ := body_once h5
          refine ⟨?_, g2⟩
          unfold msgPut
          rw [if_pos ⟨g1, hi⟩, hp]
          simp only
          have hl : ((l.drop 64).take ((l.drop 64).length - k)).length = l.length - 64 - k := by simp
          have hkl : k ≤ l.length - 64 := by simpa using h3
          have hpad : padN (64 + (l.length - 64 - k)) = k := by unfold padN; omega
          unfold padOf
          rw [if_neg hn, hl, hpad, g3, List.append_assoc]
          have hz := zeros_eq h4
          have hzl : ((l.drop 64).drop ((l.drop 64).length - k)).length = k := by simp; omega
          rw [hzl] at hz
          rw [← hz, List.take_append_drop, List.take_append_drop]
        · split at h <;> cases h
--END
end Go.Proofs.YtinfdomlpbikaaaGreatDoor

namespace Go.Proofs.YtinfdomlpbikaaaGreatDoor
open Go.Eng Go.Lib
set_option linter.unusedSimpArgs false
set_option linter.unusedVariables false
set_option maxRecDepth 100000
variable {w w0 : World}
theorem same_iffIS {a X : SayV} {A S : SayS} (ha : SayAt w a A) (hf : S.f = X.bare) (ht : X.data = ⟨none, 0, 0⟩ ∧ S.dat = []) (hl : (X.entries = ⟨none, 0, 0⟩ ∧ S.ent = []) ∨ (X.entries = a.entries ∧ S.ent = A.ent)) : SameIS X a ↔ S = A := by
  rw [← same_iffS ha hf (Or.inl ht) hl]
  unfold SameIS SameNS
  rw [ht.1]
  constructor
  · rintro ⟨h1, h2, h3⟩
    exact ⟨h1, by show 0 = _; have : 0 + a.data.n = 0 := h2; omega, h3⟩
  · rintro ⟨h1, h2, h3⟩
    exact ⟨h1, by show 0 + a.data.n = 0; have : 0 = a.data.n := h2; omega, h3⟩
/-- an element, loaded whole -/
theorem ent_load {W : World} {v : Value} {L : List EntV} (h : RowAt W 3 v L.length (L.flatMap EntV.row)) (i : Nat) (hi : i < L.length) :
    ∃ q, (∀ kk, (Instr.indexAt 37 v (.int kk i)).run Tryz.prog W = .ok (.pointer (some q)) W) ∧ ∀ K, K_load Tryz.prog 114 (.pointer (some q)) W K = K (.agg L[i].row.toArray) W := by
  obtain ⟨q, h1, _, h3⟩ := h.atN (P := Tryz.prog) (t := 37) (e := 114) Tryz.underlying37 Tryz.sizeOf114 Tryz.isAgg114 i hi
  rw [flat_at EntV.row 3 (fun _ => rfl) L i hi] at h3
  exact ⟨q, h1, h3⟩
def mayP (a : SayV) (A : SayS) : Prop := A.ent.all entOk = true ∧ a.kind ≤ 2
def MyI (w : World) (ba : Nat) (a : SayV) (L : List EntV) (m : Nat) (ρ : Env) (W : World) : Prop :=
  ∃ i : Nat, m = L.length - i ∧ i ≤ L.length ∧ (L.take i).all entOk = true ∧ Upd noB w W ∧ W.heap[ba]? = some (.cells a.cells 39 (0, 0)) ∧ ρ 1 = .pointer (some ⟨ba, 0, none⟩) ∧ ρ 6 = .slice a.entries.p a.entries.n a.entries.cap ∧ ρ 7 = .int .i64 L.length ∧ ρ 8 = .int .i64 i
set_option maxHeartbeats 2000000 in
theorem infoMay_any {a : SayV} {A : SayS} (ha : SayAt w a A) : CallP Tryz.prog 144 #[.agg a.cells] w (IffX w (mayP a A)) := by
  have hne : a.entries.n = A.ent.length := ha.nums.2
  have hel := ha.el
  refine call_den (args := [_]) Tryz.func144 rfl rfl (by simp [Tryz.ntmps144]) ?_
  simp [go_sem]
  refine den_loop (MyI w w.heap.size a A.ent) A.ent.length ?_ ?_
  · exact ⟨0, rfl, by omega, rfl, (Upd.refl _ _).alloc _, by rw [heap_alloc, if_pos rfl], by simp [go_sem], by simp [go_sem], by simp [go_sem, hne], by simp [go_sem]⟩
  rintro m ρ W ⟨i, rfl, hi, hop, hu, qh, g1, g6, g7, g8⟩
  by_cases hlt : i < A.ent.length
  · have hlt' : (i : Int) < A.ent.length := by omega
    have hwr : IntKind.i64.wrap ((i : Int) + 1) = ((i + 1 : Nat) : Int) := wrap64_id (by omega) (by omega)
    obtain ⟨q, hidx, hK⟩ := ent_load (ha.keep hu).ent i hlt
    obtain ⟨y, hy⟩ : ∃ y, y = A.ent[i] := ⟨_, rfl⟩
    rw [← hy] at hK
    have hbad : entOk y = false → ¬ mayP a A := by
      rintro h1 ⟨h2, _⟩
      have := List.all_eq_true.1 h2 y (by rw [hy]; exact List.getElem_mem hlt)
      rw [h1] at this; cases this
    have hu2 : ∀ o, Upd noB w ((W.alloc o).setB W.heap.size o) := fun o => (hu.alloc _).setB _ _ (fun h => absurd h (by have := hu.size; omega))
    by_cases h1 : y.kind ≤ 2
    · have h1' : ¬ 2 < y.kind := by omega
      by_cases h2 : 0 ≤ y.size
      · have h2' : ¬ y.size < 0 := by omega
        by_cases h3 : y.size ≤ 1048576
        · have h3' : ¬ 1048576 < y.size := by omega
          simp [go_sem, g1, g6, g7, g8, hlt', hlt, hidx, hK, EntV.row, h1, h1', h2, h2', h3, h3', hwr]
          refine ⟨A.ent.length - (i + 1), by omega, i + 1, rfl, by omega, ?_, (hu.alloc _).setB _ _ (fun h => absurd h (by have := hu.size; omega)), ?_, by simp [go_sem, g1], by simp [go_sem, g6], by simp [go_sem, g7], by simp [go_sem]⟩
          · rw [List.take_succ_eq_append_getElem hlt, List.all_append, hop, ← hy]
            simp [entOk, h1, h2, h3]
          · have hbl := (Array.getElem?_eq_some_iff.1 qh).1
            rw [heap_setB, if_neg (by omega), heap_alloc, if_neg (by omega)]
            exact qh
        · have h3' : 1048576 < y.size := by omega
          simp [go_sem, g1, g6, g7, g8, hlt', hlt, hidx, hK, EntV.row, h1, h1', h2, h2', h3, h3']
          exact ⟨false, rfl, ⟨fun h => (by cases h), fun h => absurd h (hbad (by simp [entOk, h3]))⟩, (hu.alloc _).setB _ _ (fun h => absurd h (by have := hu.size; omega))⟩
      · have h2' : y.size < 0 := by omega
        simp [go_sem, g1, g6, g7, g8, hlt', hlt, hidx, hK, EntV.row, h1, h1', h2, h2']
        exact ⟨false, rfl, ⟨fun h => (by cases h), fun h => absurd h (hbad (by simp [entOk, h2]))⟩, (hu.alloc _).setB _ _ (fun h => absurd h (by have := hu.size; omega))⟩
    · have h1' : 2 < y.kind := by omega
      simp [go_sem, g1, g6, g7, g8, hlt', hlt, hidx, hK, EntV.row, h1, h1']
      exact ⟨false, rfl, ⟨fun h => (by cases h), fun h => absurd h (hbad (by simp [entOk, h1]))⟩, (hu.alloc _).setB _ _ (fun h => absurd h (by have := hu.size; omega))⟩
  · obtain rfl : i = A.ent.length := by omega
    rw [List.take_length] at hop
    simp [go_sem, g1, g6, g7, g8, qh]
    exact ⟨decide (a.kind ≤ 2), rfl, by rw [decide_eq_true_iff]; exact ⟨fun h => ⟨hop, h⟩, fun h => h.2⟩, hu⟩
theorem infoSaid14 (a : SayV) (w : World) : CallP Tryz.prog 143 #[.int .u16 14, .agg a.cells] w (fun r w' => r = .agg (SayV.cells (SayV.mk zeroS.dialect zeroS.size_ zeroS.challenge zeroS.level zeroS.durable zeroS.made zeroS.file zeroS.kind zeroS.data zeroS.n a.entries a.more zeroS.gone)) ∧ Upd noB w w') := by
  refine call_den (args := [_, _]) Tryz.func143 rfl rfl (by simp [Tryz.ntmps143]) ?_
  simp [go_sem]
  exact (by repeat (first | exact Upd.refl _ _ | refine Upd.alloc ?_ _ | refine Upd.drew ?_ | refine Upd.drewN ?_ _ | refine Upd.setB ?_ _ _ (fun h => absurd h (by omega))))
theorem infoSaid16 (a : SayV) (w : World) : CallP Tryz.prog 143 #[.int .u16 16, .agg a.cells] w (fun r w' => r = .agg (SayV.cells (SayV.mk zeroS.dialect a.size_ zeroS.challenge zeroS.level zeroS.durable zeroS.made zeroS.file a.kind zeroS.data zeroS.n zeroS.entries zeroS.more a.gone)) ∧ Upd noB w w') := by
  refine call_den (args := [_, _]) Tryz.func143 rfl rfl (by simp [Tryz.ntmps143]) ?_
  simp [go_sem]
  exact (by repeat (first | exact Upd.refl _ _ | refine Upd.alloc ?_ _ | refine Upd.drew ?_ | refine Upd.drewN ?_ _ | refine Upd.setB ?_ _ _ (fun h => absurd h (by omega))))
theorem infoSaid18 (a : SayV) (w : World) : CallP Tryz.prog 143 #[.int .u16 18, .agg a.cells] w (fun r w' => r = .agg (SayV.cells (SayV.mk zeroS.dialect zeroS.size_ zeroS.challenge a.level zeroS.durable zeroS.made a.file zeroS.kind zeroS.data zeroS.n zeroS.entries zeroS.more zeroS.gone)) ∧ Upd noB w w') := by
  refine call_den (args := [_, _]) Tryz.func143 rfl rfl (by simp [Tryz.ntmps143]) ?_
  simp [go_sem]
  exact (by repeat (first | exact Upd.refl _ _ | refine Upd.alloc ?_ _ | refine Upd.drew ?_ | refine Upd.drewN ?_ _ | refine Upd.setB ?_ _ _ (fun h => absurd h (by omega))))
theorem infoSaid17 (a : SayV) (w : World) : CallP Tryz.prog 143 #[.int .u16 17, .agg a.cells] w (fun r w' => r = .agg (SayV.cells (SayV.mk zeroS.dialect zeroS.size_ zeroS.challenge zeroS.level zeroS.durable zeroS.made zeroS.file zeroS.kind zeroS.data zeroS.n zeroS.entries zeroS.more zeroS.gone)) ∧ Upd noB w w') := by
  refine call_den (args := [_, _]) Tryz.func143 rfl rfl (by simp [Tryz.ntmps143]) ?_
  simp [go_sem]
  exact (by repeat (first | exact Upd.refl _ _ | refine Upd.alloc ?_ _ | refine Upd.drew ?_ | refine Upd.drewN ?_ _ | refine Upd.setB ?_ _ _ (fun h => absurd h (by omega))))
theorem infoPutSay12 {a : SayV} {A : SayS} : CallP Tryz.prog 90 #[.int .u16 12, .agg a.cells] w (fun r w' => Upd noB w w' ∧ PutR w' w.heap.size r (.error 2)) := by
  refine call_den (args := [_, _]) Tryz.func90 rfl rfl (by simp [Tryz.ntmps90]) ?_
  simp [go_sem]
  refine gen_draw ?_
  intro W hW
  have hu : Upd noB w W := by rw [hW]; exact (by repeat (first | exact Upd.refl _ _ | refine Upd.alloc ?_ _ | refine Upd.drew ?_ | refine Upd.drewN ?_ _ | refine Upd.setB ?_ _ _ (fun h => absurd h (by omega))))
  have qa : SayS0 w.heap.size a W := by unfold SayS0; rw [hW, heap_alloc, if_pos rfl]
  clear hW
  generalize hba : w.heap.size = ba at qa ⊢
  refine Go.Eng.Ch.draw_script [.pure 0, .one 1, .one 2, .pure 3, .pure 4, .one 5, .one 6, .pure 7, .pure 8, .chain [9, 11] [10], .one 12, .one 13, .one 14, .pure 15, .one 16, .one 17, .one 18, .one 19, .pure 20] (by kernel_rfl) (by kernel_rfl) (by kernel_rfl) ?_
  simp [go_sem]
  replace hu := hu.drew
  have qa' : SayS0 ba a W.drew := qa
  refine CallP.mono (infoKnown_any _ _) ?_
  rintro v W1 ⟨rfl, hW1⟩
  replace hu : Upd noB w W1 := by rw [hW1]; exact hu
  replace qa : SayS0 ba a W1 := by rw [hW1]; exact qa'
  clear hW1 qa'
  simp [go_sem, known10]
  haveI : Nonempty { W : World // SayS0 ba a W } := ⟨⟨W1, qa⟩⟩
  have ql := Q_load_fix (P := Tryz.prog) (W := fun i : { W : World // SayS0 ba a W } => i.1) (fun i => i.2.load)
  refine Go.Eng.Ch.opsPh_chain _ _ (SayS0 ba a) qa ?_
  simp [go_sem, ql, Go.Eng.Ch.contJ_app qa]
  exact ⟨hu, rfl⟩
set_option maxHeartbeats 2000000 in
theorem infoPutSay17 {a : SayV} {A : SayS} (ha : SayAt w a A) (ok : a.ok) : CallP Tryz.prog 90 #[.int .u16 17, .agg a.cells] w (fun r w' => Upd noB w w' ∧ PutR w' w.heap.size r (sayFz.put A)) := by
  have hS : SameIS (SayV.mk zeroS.dialect zeroS.size_ zeroS.challenge zeroS.level zeroS.durable zeroS.made zeroS.file zeroS.kind zeroS.data zeroS.n zeroS.entries zeroS.more zeroS.gone) a ↔ sayFz.mkS (sayFz.unS A) = A := same_iffIS ha (by unfold sayFz; simp only [ha.f]; rfl) ⟨rfl, rfl⟩ (Or.inl ⟨rfl, rfl⟩)
  refine call_den (args := [_, _]) Tryz.func90 rfl rfl (by simp [Tryz.ntmps90]) ?_
  simp [go_sem]
  refine gen_draw ?_
  intro W hW
  have hu : Upd noB w W := by rw [hW]; exact (by repeat (first | exact Upd.refl _ _ | refine Upd.alloc ?_ _ | refine Upd.drew ?_ | refine Upd.drewN ?_ _ | refine Upd.setB ?_ _ _ (fun h => absurd h (by omega))))
  have qa : SayS0 w.heap.size a W := by unfold SayS0; rw [hW, heap_alloc, if_pos rfl]
  clear hW
  generalize hba : w.heap.size = ba at qa ⊢
  refine Go.Eng.Ch.draw_script [.pure 0, .one 1, .one 2, .pure 3, .pure 4, .one 5, .one 6, .pure 7, .pure 8, .chain [9, 11] [10], .one 12, .one 13, .one 14, .pure 15, .one 16, .one 17, .one 18, .one 19, .pure 20] (by kernel_rfl) (by kernel_rfl) (by kernel_rfl) ?_
  simp [go_sem]
  replace hu := hu.drew
  have qa' : SayS0 ba a W.drew := qa
  refine CallP.mono (infoKnown_any _ _) ?_
  rintro v W1 ⟨rfl, hW1⟩
  replace hu : Upd noB w W1 := by rw [hW1]; exact hu
  replace qa : SayS0 ba a W1 := by rw [hW1]; exact qa'
  clear hW1 qa'
  simp [go_sem, known10]
  haveI : Nonempty { W : World // SayS0 ba a W } := ⟨⟨W1, qa⟩⟩
  have ql := Q_load_fix (P := Tryz.prog) (W := fun i : { W : World // SayS0 ba a W } => i.1) (fun i => i.2.load)
  refine Go.Eng.Ch.opsPh_chain _ _ (SayS0 ba a) qa ?_
  simp [go_sem, ql]
  refine CallP.mono (infoSaid17 a _) ?_
  rintro v W2 ⟨rfl, u2⟩
  replace hu := hu.trans u2
  replace qa : SayS0 ba a W2 := u2.get qa (fun h => h)
  simp [go_sem, Go.Eng.Ch.contJ_app qa]
  refine CallP.mono (infoSameSay_any (⟨Nat.zero_le _, Nat.zero_le _⟩) ha.lens) ?_
  rintro v W3 ⟨x, rfl, hx, u3⟩
  replace hx := hx.trans hS
  replace hu := hu.trans u3
  replace qa : SayS0 ba a W3 := u3.get qa (fun h => h)
  have qh : W3.heap[ba]? = some (.cells a.cells 39 (0, 0)) := qa
  clear u2 u3
  cases x with
  | false =>
    have hA : ¬ sayFz.mkS (sayFz.unS A) = A := fun h => by have := hx.2 h; cases this
    simp [go_sem, Go.Eng.Ch.contJ_app qa]
    rw [sayFz.put_no hA]
    exact ⟨hu, rfl⟩
  | true =>
    have hA := hx.1 rfl
    have hent : A.ent = [] := by rw [← hA]; rfl
    have hne : a.entries.n = 0 := by rw [ha.nums.2, hent]; rfl
    simp [go_sem, Go.Eng.Ch.contJ_app qa, qh]
    refine CallP.mono (infoMay_any (ha.keep hu)) ?_
    rintro v W4 ⟨x, rfl, hy, u4⟩
    replace hu := hu.trans u4
    replace qh := u4.get qh (fun h => h)
    clear u4 qa
    have hk : a.kind = 0 := show a.bare.kind = 0 by rw [← ha.f, ← hA]; rfl
    obtain rfl : x = true := hy.2 ⟨by rw [hent]; rfl, by omega⟩
    simp [go_sem, qh, hne]
    refine gen_call ?_
    intro Wb hWb
    have hq : Wb.heap[ba]? = some (.cells a.cells 39 (0, 0)) := by rw [hWb, heap_alloc, if_neg (by have := (Array.getElem?_eq_some_iff.1 qh).1; omega)]; exact qh
    have hc : Wb.heap[W4.heap.size]? = some (.cells #[.slice none 0 0, .int .i64 0] 148 (0, 0)) := by rw [hWb, heap_alloc, if_pos rfl]
    have hsz : Wb.heap.size = W4.heap.size + 1 := by rw [hWb]; simp
    have hub : Upd noB w Wb := by rw [hWb]; exact hu.alloc _
    have hne : ba ≠ W4.heap.size := by have := (Array.getElem?_eq_some_iff.1 qh).1; omega
    have g : IQ w Wb Wb ba W4.heap.size _ 0 (.ok []) := ⟨⟨Upd.refl _ _, ⟨by omega, rfl⟩, none, 0, 0, 0, [], hc, nil_own _ _, Nat.le_refl _, rfl, rfl⟩, hub, hq, hne, hu.size⟩
    clear hq hc hsz hub hWb
    generalize W4.heap.size = bw at g ⊢
    have qa := g.qa
    refine CallP.mono (g.n (k := 4) (by decide) (by decide) (by decide) (by omega)) ?_
    clear qa g
    rintro v W5 g
    have qa := g.qa
    simp [go_sem]
    have hput : sayFz.put A = .ok (leB (0 : Int).toNat 4) := by rw [sayFz.put_ok hA rfl]; exact zero4_put
    refine CallP.mono g.done ?_
    rintro r W6 ⟨u6, hr⟩
    have hr2 := PutR.base (b' := ba) hr (by have := g.u.size; omega)
    obtain ⟨v6, e6, rfl⟩ := hr.form
    simp [go_sem]
    rw [hput]
    refine ⟨u6, ?_⟩
    simpa [appR] using hr2
set_option maxHeartbeats 2000000 in
theorem infoPutSay18 {a : SayV} {A : SayS} (ha : SayAt w a A) (ok : a.ok) : CallP Tryz.prog 90 #[.int .u16 18, .agg a.cells] w (fun r w' => Upd noB w w' ∧ PutR w' w.heap.size r (sayF18.put A)) := by
  have hS : SameIS (SayV.mk zeroS.dialect zeroS.size_ zeroS.challenge a.level zeroS.durable zeroS.made a.file zeroS.kind zeroS.data zeroS.n zeroS.entries zeroS.more zeroS.gone) a ↔ sayF18.mkS (sayF18.unS A) = A := same_iffIS ha (by unfold sayF18; simp only [ha.f]; rfl) ⟨rfl, rfl⟩ (Or.inl ⟨rfl, rfl⟩)
  refine call_den (args := [_, _]) Tryz.func90 rfl rfl (by simp [Tryz.ntmps90]) ?_
  simp [go_sem]
  refine gen_draw ?_
  intro W hW
  have hu : Upd noB w W := by rw [hW]; exact (by repeat (first | exact Upd.refl _ _ | refine Upd.alloc ?_ _ | refine Upd.drew ?_ | refine Upd.drewN ?_ _ | refine Upd.setB ?_ _ _ (fun h => absurd h (by omega))))
  have qa : SayS0 w.heap.size a W := by unfold SayS0; rw [hW, heap_alloc, if_pos rfl]
  clear hW
  generalize hba : w.heap.size = ba at qa ⊢
  refine Go.Eng.Ch.draw_script [.pure 0, .one 1, .one 2, .pure 3, .pure 4, .one 5, .one 6, .pure 7, .pure 8, .chain [9, 11] [10], .one 12, .one 13, .one 14, .pure 15, .one 16, .one 17, .one 18, .one 19, .pure 20] (by kernel_rfl) (by kernel_rfl) (by kernel_rfl) ?_
  simp [go_sem]
  replace hu := hu.drew
  have qa' : SayS0 ba a W.drew := qa
  refine CallP.mono (infoKnown_any _ _) ?_
  rintro v W1 ⟨rfl, hW1⟩
  replace hu : Upd noB w W1 := by rw [hW1]; exact hu
  replace qa : SayS0 ba a W1 := by rw [hW1]; exact qa'
  clear hW1 qa'
  simp [go_sem, known10]
  haveI : Nonempty { W : World // SayS0 ba a W } := ⟨⟨W1, qa⟩⟩
  have ql := Q_load_fix (P := Tryz.prog) (W := fun i : { W : World // SayS0 ba a W } => i.1) (fun i => i.2.load)
  refine Go.Eng.Ch.opsPh_chain _ _ (SayS0 ba a) qa ?_
  simp [go_sem, ql]
  refine CallP.mono (infoSaid18 a _) ?_
  rintro v W2 ⟨rfl, u2⟩
  replace hu := hu.trans u2
  replace qa : SayS0 ba a W2 := u2.get qa (fun h => h)
  simp [go_sem, Go.Eng.Ch.contJ_app qa]
  refine CallP.mono (infoSameSay_any (⟨Nat.zero_le _, Nat.zero_le _⟩) ha.lens) ?_
  rintro v W3 ⟨x, rfl, hx, u3⟩
  replace hx := hx.trans hS
  replace hu := hu.trans u3
  replace qa : SayS0 ba a W3 := u3.get qa (fun h => h)
  have qh : W3.heap[ba]? = some (.cells a.cells 39 (0, 0)) := qa
  clear u2 u3
  cases x with
  | false =>
    have hA : ¬ sayF18.mkS (sayF18.unS A) = A := fun h => by have := hx.2 h; cases this
    simp [go_sem, Go.Eng.Ch.contJ_app qa]
    rw [sayF18.put_no hA]
    exact ⟨hu, rfl⟩
  | true =>
    have hA := hx.1 rfl
    have hent : A.ent = [] := by rw [← hA]; rfl
    have hne : a.entries.n = 0 := by rw [ha.nums.2, hent]; rfl
    simp [go_sem, Go.Eng.Ch.contJ_app qa, qh]
    refine CallP.mono (infoMay_any (ha.keep hu)) ?_
    rintro v W4 ⟨x, rfl, hy, u4⟩
    replace hu := hu.trans u4
    replace qh := u4.get qh (fun h => h)
    clear u4 qa
    have hk : a.kind = 0 := show a.bare.kind = 0 by rw [← ha.f, ← hA]; rfl
    obtain rfl : x = true := hy.2 ⟨by rw [hent]; rfl, by omega⟩
    have cl : IntKind.u64.wrap a.level = a.level := wrap64 ok.level.1 (by have := ok.level; omega)
    simp [go_sem, qh, hne]
    refine gen_load ?_
    intro Wb hWb
    have hq : Wb.heap[ba]? = some (.cells a.cells 39 (0, 0)) := by rw [hWb, heap_alloc, if_neg (by have := (Array.getElem?_eq_some_iff.1 qh).1; omega)]; exact qh
    have hc : Wb.heap[W4.heap.size]? = some (.cells #[.slice none 0 0, .int .i64 0] 148 (0, 0)) := by rw [hWb, heap_alloc, if_pos rfl]
    have hsz : Wb.heap.size = W4.heap.size + 1 := by rw [hWb]; simp
    have hub : Upd noB w Wb := by rw [hWb]; exact hu.alloc _
    have hne : ba ≠ W4.heap.size := by have := (Array.getElem?_eq_some_iff.1 qh).1; omega
    have g : IQ w Wb Wb ba W4.heap.size _ 0 (.ok []) := ⟨⟨Upd.refl _ _, ⟨by omega, rfl⟩, none, 0, 0, 0, [], hc, nil_own _ _, Nat.le_refl _, rfl, rfl⟩, hub, hq, hne, hu.size⟩
    clear hq hc hsz hub hWb
    generalize W4.heap.size = bw at g ⊢
    have qa := g.qa
    simp [go_sem, qa]
    refine CallP.mono (g.n (k := 8) (by decide) ok.file.1 ok.file.2 (by omega)) ?_
    clear qa g
    rintro v W5 g
    have qa := g.qa
    simp [go_sem, qa, cl]
    refine CallP.mono (g.n (k := 4) (by decide) ok.level.1 (by have := ok.level; omega) (by omega)) ?_
    clear qa g
    rintro v W5 g
    have qa := g.qa
    simp [go_sem]
    have hput : sayF18.put A = .ok (leB a.file.toNat 8 ++ leB a.level.toNat 4) := by
      rw [sayF18.put_ok hA rfl, leB_14 _ (by have := ok.level; omega)]
      have e : sayF18.unS A = (a.file, a.level, (), ()) := by unfold sayF18; simp only [ha.f]; rfl
      rw [e]
      exact seq_put (D := fun _ => _) (num_put ok.file.1 ok.file.2) (seq_put (D := fun _ => _) (num_put ok.level.1 ok.level.2) (seq_put (D := fun _ => _) zero1_put zero2_put))
    refine CallP.mono g.done ?_
    rintro r W6 ⟨u6, hr⟩
    have hr2 := PutR.base (b' := ba) hr (by have := g.u.size; omega)
    obtain ⟨v6, e6, rfl⟩ := hr.form
    simp [go_sem]
    rw [hput]
    refine ⟨u6, ?_⟩
    simpa [appR] using hr2
set_option maxHeartbeats 2000000 in
theorem infoPutSay16 {a : SayV} {A : SayS} (ha : SayAt w a A) (ok : a.ok) : CallP Tryz.prog 90 #[.int .u16 16, .agg a.cells] w (fun r w' => Upd noB w w' ∧ PutR w' w.heap.size r (sayF16.put A)) := by
  have hS : SameIS (SayV.mk zeroS.dialect a.size_ zeroS.challenge zeroS.level zeroS.durable zeroS.made zeroS.file a.kind zeroS.data zeroS.n zeroS.entries zeroS.more a.gone) a ↔ sayF16.mkS (sayF16.unS A) = A := same_iffIS ha (by unfold sayF16; simp only [ha.f]; rfl) ⟨rfl, rfl⟩ (Or.inl ⟨rfl, rfl⟩)
  refine call_den (args := [_, _]) Tryz.func90 rfl rfl (by simp [Tryz.ntmps90]) ?_
  simp [go_sem]
  refine gen_draw ?_
  intro W hW
  have hu : Upd noB w W := by rw [hW]; exact (by repeat (first | exact Upd.refl _ _ | refine Upd.alloc ?_ _ | refine Upd.drew ?_ | refine Upd.drewN ?_ _ | refine Upd.setB ?_ _ _ (fun h => absurd h (by omega))))
  have qa : SayS0 w.heap.size a W := by unfold SayS0; rw [hW, heap_alloc, if_pos rfl]
  clear hW
  generalize hba : w.heap.size = ba at qa ⊢
  refine Go.Eng.Ch.draw_script [.pure 0, .one 1, .one 2, .pure 3, .pure 4, .one 5, .one 6, .pure 7, .pure 8, .chain [9, 11] [10], .one 12, .one 13, .one 14, .pure 15, .one 16, .one 17, .one 18, .one 19, .pure 20] (by kernel_rfl) (by kernel_rfl) (by kernel_rfl) ?_
  simp [go_sem]
  replace hu := hu.drew
  have qa' : SayS0 ba a W.drew := qa
  refine CallP.mono (infoKnown_any _ _) ?_
  rintro v W1 ⟨rfl, hW1⟩
  replace hu : Upd noB w W1 := by rw [hW1]; exact hu
  replace qa : SayS0 ba a W1 := by rw [hW1]; exact qa'
  clear hW1 qa'
  simp [go_sem, known10]
  haveI : Nonempty { W : World // SayS0 ba a W } := ⟨⟨W1, qa⟩⟩
  have ql := Q_load_fix (P := Tryz.prog) (W := fun i : { W : World // SayS0 ba a W } => i.1) (fun i => i.2.load)
  refine Go.Eng.Ch.opsPh_chain _ _ (SayS0 ba a) qa ?_
  simp [go_sem, ql]
  refine CallP.mono (infoSaid16 a _) ?_
  rintro v W2 ⟨rfl, u2⟩
  replace hu := hu.trans u2
  replace qa : SayS0 ba a W2 := u2.get qa (fun h => h)
  simp [go_sem, Go.Eng.Ch.contJ_app qa]
  refine CallP.mono (infoSameSay_any (⟨Nat.zero_le _, Nat.zero_le _⟩) ha.lens) ?_
  rintro v W3 ⟨x, rfl, hx, u3⟩
  replace hx := hx.trans hS
  replace hu := hu.trans u3
  replace qa : SayS0 ba a W3 := u3.get qa (fun h => h)
  have qh : W3.heap[ba]? = some (.cells a.cells 39 (0, 0)) := qa
  clear u2 u3
  cases x with
  | false =>
    have hA : ¬ sayF16.mkS (sayF16.unS A) = A := fun h => by have := hx.2 h; cases this
    simp [go_sem, Go.Eng.Ch.contJ_app qa]
    rw [sayF16.put_no hA]
    exact ⟨hu, rfl⟩
  | true =>
    have hA := hx.1 rfl
    have hent : A.ent = [] := by rw [← hA]; rfl
    have hne : a.entries.n = 0 := by rw [ha.nums.2, hent]; rfl
    simp [go_sem, Go.Eng.Ch.contJ_app qa, qh]
    refine CallP.mono (infoMay_any (ha.keep hu)) ?_
    rintro v W4 ⟨x, rfl, hy, u4⟩
    replace hu := hu.trans u4
    replace qh := u4.get qh (fun h => h)
    clear u4 qa
    have e : sayF16.unS A = (a.size_, a.kind, a.gone) := by unfold sayF16; simp only [ha.f]; rfl
    by_cases hk : a.kind ≤ 2
    · obtain rfl : x = true := hy.2 ⟨by rw [hent]; rfl, hk⟩
      have ck : IntKind.u64.wrap a.kind = a.kind := wrap64 ok.kind.1 (by have := ok.kind; omega)
      simp [go_sem, qh, hne]
      refine gen_load ?_
      intro Wb hWb
      have hq : Wb.heap[ba]? = some (.cells a.cells 39 (0, 0)) := by rw [hWb, heap_alloc, if_neg (by have := (Array.getElem?_eq_some_iff.1 qh).1; omega)]; exact qh
      have hc : Wb.heap[W4.heap.size]? = some (.cells #[.slice none 0 0, .int .i64 0] 148 (0, 0)) := by rw [hWb, heap_alloc, if_pos rfl]
      have hsz : Wb.heap.size = W4.heap.size + 1 := by rw [hWb]; simp
      have hub : Upd noB w Wb := by rw [hWb]; exact hu.alloc _
      have hne : ba ≠ W4.heap.size := by have := (Array.getElem?_eq_some_iff.1 qh).1; omega
      have g : IQ w Wb Wb ba W4.heap.size _ 0 (.ok []) := ⟨⟨Upd.refl _ _, ⟨by omega, rfl⟩, none, 0, 0, 0, [], hc, nil_own _ _, Nat.le_refl _, rfl, rfl⟩, hub, hq, hne, hu.size⟩
      clear hq hc hsz hub hWb
      generalize W4.heap.size = bw at g ⊢
      have qa := g.qa
      simp [go_sem, qa]
      refine CallP.mono (g.n (k := 8) (by decide) ok.size_.1 ok.size_.2 (by omega)) ?_
      clear qa g
      rintro v W5 g
      have qa := g.qa
      simp [go_sem, qa, ck]
      refine CallP.mono (g.n (k := 2) (by decide) ok.kind.1 (by have := ok.kind; omega) (by omega)) ?_
      clear qa g
      rintro v W5 g
      have qa := g.qa
      simp [go_sem, qa]
      refine CallP.mono (g.truth (k := 2) (by decide) (by omega)) ?_
      clear qa g
      rintro v W5 g
      simp [go_sem]
      have hput : sayF16.put A = .ok (leB a.size_.toNat 8 ++ (leB a.kind.toNat 2 ++ leB (if a.gone = true then 1 else 0) 2)) := by
        rw [sayF16.put_ok hA rfl, e]
        exact seq_put (D := fun _ => _) (num_put ok.size_.1 ok.size_.2) (seq_put (D := fun _ => _) (most_put ok.kind.1 (by have := ok.kind; omega) hk) (bool2_put a.gone))
      refine CallP.mono g.done ?_
      rintro r W6 ⟨u6, hr⟩
      have hr2 := PutR.base (b' := ba) hr (by have := g.u.size; omega)
      obtain ⟨v6, e6, rfl⟩ := hr.form
      simp [go_sem]
      rw [hput]
      refine ⟨u6, ?_⟩
      simpa [appR] using hr2
    · obtain rfl : x = false := by
        cases x with
        | false => rfl
        | true => exact absurd (hy.1 rfl).2 hk
      simp [go_sem]
      have hp : sayF16.C.put (a.size_, a.kind, a.gone) = .error 2 := seq_putE (num_put ok.size_.1 ok.size_.2) (seq_putF (most_put_no hk))
      rw [sayF16.put_ok hA rfl, e, hp]
      exact ⟨hu, rfl⟩
end Go.Proofs.YtinfdomlpbikaaaGreatDoor
namespace Go.Proofs.YtinfdomlpbikaaaGreatDoor
open Go.Eng Go.Lib
set_option linter.unusedSimpArgs false
set_option linter.unusedVariables false
set_option maxRecDepth 100000
variable {w w0 : World}
/-- as WrE, a further block as it was, and apart from the bytes -/
structure WrZ (wb w : World) (bw n0 : Nat) (T : TypeId) (N : Nat) (res : Except Int (List UInt8)) (bx : Nat) (o : Obj) : Prop where
  u : Upd (fun x => x = bw) wb w
  lt : bw < n0 ∧ n0 = wb.heap.size
  cell : ∃ p n c e l, w.heap[bw]? = some (.cells #[.slice p n c, .int .i64 e] T (0, 0)) ∧ OwnB w n0 (.slice p n c) l ∧ l.length ≤ N ∧ ResOk e l res ∧ (∀ g, (Value.slice p n c).ownBlock = some g → g ≠ bx)
  qx : w.heap[bx]? = some o
  ne : bx ≠ bw
theorem WrZ.toE {wb w : World} {bw n0 N : Nat} {T : TypeId} {res : Except Int (List UInt8)} {bx : Nat} {o : Obj} (h : WrZ wb w bw n0 T N res bx o) : WrE wb w bw n0 T N res := by
  obtain ⟨p, n, c, e, l, h1, h2, h3, h4, _⟩ := h.cell
  exact ⟨h.u, h.lt, p, n, c, e, l, h1, h2, h3, h4⟩
theorem WrE.toZ {wb w w' : World} {bw n0 N : Nat} {T : TypeId} {res : Except Int (List UInt8)} {o : Obj} (h : WrE wb w bw n0 T N res) (u : Upd noB w w') (hx : w'.heap[w.heap.size]? = some o) : WrZ wb w' bw n0 T N res w.heap.size o := by
  obtain ⟨p, n, c, e, l, h1, h2, h3, h4⟩ := h.cell
  have hb := (Array.getElem?_eq_some_iff.1 h1).1
  exact ⟨h.u.trans (u.mono (fun _ _ h => h.elim)), h.lt, ⟨p, n, c, e, l, u.get h1 (fun h => h), own_keep0 h2 u, h3, h4, fun g hg => by have := (h2.lt g hg).2; omega⟩, hx, by omega⟩
theorem infoWZ {wb : World} {bw n0 N bx : Nat} {T : TypeId} {res : Except Int (List UInt8)} {o : Obj} {z : Int} {k : Nat} (J : WrZ wb w bw n0 T N res bx o) (hk : sizeOk k) (h0 : 0 ≤ z) (h1 : z < 256 ^ k) (hl : N ≤ 1099511627776) :
    CallP Tryz.prog 133 #[.pointer (some ⟨bw, 0, none⟩), .int .u64 z, .int .i64 k] w (fun r w' => WrZ wb w' bw n0 T (N + 8) (appR (leB z.toNat k) res) bx o) := by
  obtain ⟨p, n, c, e, l, hc, own, hN, hres, hob⟩ := J.cell
  refine call_den (args := [_, _, _]) Tryz.func133 rfl rfl (by simp [Tryz.ntmps133]) ?_
  simp [go_sem]
  refine CallP.mono (endsPut_z hk h0 h1 w) ?_
  rintro r w1 ⟨x, rfl, u1, own1⟩
  have hc1 := u1.get hc (fun h => h)
  have hx1 := u1.get J.qx (fun h => h)
  have hs := J.u.size
  have hk8 : k ≤ 8 := by unfold sizeOk at hk; omega
  have hbx := (Array.getElem?_eq_some_iff.1 J.qx).1
  have ownk : OwnB w1 n0 (.slice p n c) l := own_keep0 own u1
  obtain ⟨v', w2, hrun, own2, hg2, hat⟩ := sl_append_at slByte ownk own1.at.1 31 (u8_one _) (by rw [leB_len]; omega) (by rw [leB_len]; simp [maxLen]; omega) (by have := J.lt.2; have := u1.size; omega)
  have hobw : ∀ k, (Value.slice p n c).ownBlock = some k → n0 ≤ k := fun k hk => (ownk.lt k hk).1
  have u2 : Upd (fun i => (Value.slice p n c).ownBlock = some i) w1 w2 := (Upd.refl _ _).grown hg2 (fun k hk _ => hk)
  have own2' : OwnB w2 n0 v' (l ++ leB z.toNat k) := by
    unfold OwnB
    rw [List.length_append, List.map_append]
    exact own2
  obtain ⟨p2, n2, c2, rfl⟩ := OwnB.slice own2'
  have hc2 := u2.get hc1 (fun h => by have := hobw _ h; have := J.lt; omega)
  have hx2 := u2.get hx1 (fun h => hob _ h rfl)
  simp [go_sem, hc1, K_append_ok _ _ _ _ hrun, hc2]
  have ub : Upd (fun x => x = bw) w2 (w2.setB bw (.cells #[.slice p2 n2 c2, .int .i64 e] T (0, 0))) := (Upd.refl _ _).setB _ _ (fun _ => rfl)
  refine ⟨((J.u.trans (u1.mono (fun _ _ h => h.elim))).trans' u2 (fun i hi hlt => by have := hobw _ hi; have := J.lt; omega)).trans ub, J.lt, ⟨p2, n2, c2, e, _, by rw [heap_setB, if_pos rfl, hc2]; rfl, own_above own2' ub (fun i h => by subst h; exact J.lt.1), by rw [List.length_append, leB_len]; omega, hres.app, ?_⟩, by rw [heap_setB, if_neg J.ne]; exact hx2, J.ne⟩
  intro g hg
  rcases hat with h | h
  · rw [h] at hg; exact hob g hg
  · rw [h] at hg; injection hg with hg; have := u1.size; omega
def entR (res : Except Int (List UInt8)) (x : EntV) : Except Int (List UInt8) := textR (appR (leB x.size.toNat 8) (appR (leB x.kind.toNat 4) res)) x.name
theorem entR_err {e : Int} : ∀ L : List EntV, L.foldl entR (.error e) = .error e
  | [] => rfl
  | s :: L => entR_err L
structure EntV.ok (x : EntV) : Prop where
  kind : 0 ≤ x.kind ∧ x.kind < 256
  name : x.name.size ≤ 1099511627776
theorem entC_put {x : EntV} (ok : x.ok) (h : entOk x = true) : entC.put (entTo x) = match textPut x.name.data.toList with
    | .error e => .error e
    | .ok b => .ok (leB x.kind.toNat 2 ++ (leB 0 2 ++ (leB x.size.toNat 8 ++ b))) := by
  have h' := of_decide_eq_true h
  cases ht : textPut x.name.data.toList with
  | error e => exact seq_putE (most_put ok.kind.1 (by have := ok.kind; omega) h'.1) (seq_putE zero2_put (seq_putE (most_put h'.2.1 (by omega) h'.2.2) ht))
  | ok b => exact seq_put (D := fun _ => _) (most_put (k := 2) ok.kind.1 (by have := ok.kind; omega) h'.1) (seq_put (D := fun _ => _) zero2_put (seq_put (C := mostC 8 1048576 5) (D := fun _ => textC) (most_put h'.2.1 (by omega) h'.2.2) ht))
theorem ent_fold : ∀ (L : List EntV) (pre : List UInt8), (∀ x ∈ L, x.ok) → (∀ x ∈ L, entOk x = true) → L.foldl entR (.ok pre) = match (listC entC L.length).put (L.map entTo) with
    | .error e => .error e
    | .ok b => .ok (pre ++ b)
  | [], pre, _, _ => by
    show Except.ok pre = Except.ok (pre ++ [])
    rw [List.append_nil]
  | x :: L, pre, h1, h2 => by
    have okx := h1 x (by simp)
    have hp := entC_put okx (h2 x (by simp))
    have e1 : entR (.ok pre) x = match textPut x.name.data.toList with
        | .error e => .error e
        | .ok b => .ok (pre ++ (leB x.kind.toNat 2 ++ (leB 0 2 ++ (leB x.size.toNat 8 ++ b)))) := by
      show textR (.ok ((pre ++ leB x.kind.toNat 4) ++ leB x.size.toNat 8)) x.name = _
      rw [leB_4 _ (by have := okx.kind; omega)]
      unfold textR
      cases ht : textPut x.name.data.toList with
      | error e => rfl
      | ok b => simp only [List.append_assoc]
    have hc : (listC entC (x :: L).length).put ((x :: L).map entTo) = (seqC entC fun _ => listC entC L.length).put (entTo x, L.map entTo) := rfl
    rw [List.foldl_cons, e1, hc]
    cases ht : textPut x.name.data.toList with
    | error e =>
      rw [ht] at hp
      rw [seq_putF hp]
      exact entR_err L
    | ok b =>
      rw [ht] at hp
      have ih := ent_fold L (pre ++ (leB x.kind.toNat 2 ++ (leB 0 2 ++ (leB x.size.toNat 8 ++ b)))) (fun y hy => h1 y (by simp [hy])) (fun y hy => h2 y (by simp [hy]))
      show L.foldl entR (.ok (pre ++ _)) = _
      rw [ih]
      cases hl : (listC entC L.length).put (L.map entTo) with
      | error e => rw [seq_putE hp hl]
      | ok c =>
        rw [seq_put (D := fun _ => listC entC L.length) hp hl]
        simp only [List.append_assoc]
def ElI (w wb : World) (ba bw : Nat) (a : SayV) (L : List EntV) (res : Except Int (List UInt8)) (N : Nat) (m : Nat) (ρ : Env) (W : World) : Prop :=
  ∃ i : Nat, m = L.length - i ∧ i ≤ L.length ∧ ρ 3 = .pointer (some ⟨ba, 0, none⟩) ∧ ρ 6 = .pointer (some ⟨bw, 0, none⟩) ∧ ρ 53 = .slice a.entries.p a.entries.n a.entries.cap ∧ ρ 54 = .int .i64 L.length ∧ ρ 55 = .int .i64 i ∧ IQ w wb W ba bw (.cells a.cells 39 (0, 0)) (N + 536 * i) ((L.take i).foldl entR res)
set_option maxHeartbeats 4000000 in
theorem infoPutSay14 {a : SayV} {A : SayS} (ha : SayAt w a A) (ok : a.ok) (oke : ∀ x ∈ A.ent, x.ok) (hT : Tabs w) : CallP Tryz.prog 90 #[.int .u16 14, .agg a.cells] w (fun r w' => Upd noB w w' ∧ PutR w' w.heap.size r (sayF14.put A)) := by
  have hel := ha.el
  have hnl : a.entries.n = A.ent.length := ha.nums.2
  have hS : SameIS (SayV.mk zeroS.dialect zeroS.size_ zeroS.challenge zeroS.level zeroS.durable zeroS.made zeroS.file zeroS.kind zeroS.data zeroS.n a.entries a.more zeroS.gone) a ↔ ({ zeroSS with f := { zeroS with more := a.more }, ent := A.ent } : SayS) = A := same_iffIS ha rfl ⟨rfl, rfl⟩ (Or.inr ⟨rfl, rfl⟩)
  have hmap : (A.ent.map entTo).map entOf = A.ent := by
    rw [List.map_map]
    conv => rhs; rw [← List.map_id A.ent]
    rfl
  have hmk : sayF14.mkS (sayF14.unS A) = ({ zeroSS with f := { zeroS with more := a.more }, ent := A.ent } : SayS) := by
    show ({ zeroSS with ent := (A.ent.map entTo).map entOf, f := { zeroS with more := A.f.more } } : SayS) = _
    rw [hmap, ha.f]
    rfl
  rw [← hmk] at hS
  refine call_den (args := [_, _]) Tryz.func90 rfl rfl (by simp [Tryz.ntmps90]) ?_
  simp [go_sem]
  refine gen_draw ?_
  intro W hW
  have hu : Upd noB w W := by rw [hW]; exact (by repeat (first | exact Upd.refl _ _ | refine Upd.alloc ?_ _ | refine Upd.drew ?_ | refine Upd.drewN ?_ _ | refine Upd.setB ?_ _ _ (fun h => absurd h (by omega))))
  have qa : SayS0 w.heap.size a W := by unfold SayS0; rw [hW, heap_alloc, if_pos rfl]
  clear hW
  generalize hba : w.heap.size = ba at qa ⊢
  refine Go.Eng.Ch.draw_script [.pure 0, .one 1, .one 2, .pure 3, .pure 4, .one 5, .one 6, .pure 7, .pure 8, .chain [9, 11] [10], .one 12, .one 13, .one 14, .pure 15, .one 16, .one 17, .one 18, .one 19, .pure 20] (by kernel_rfl) (by kernel_rfl) (by kernel_rfl) ?_
  simp [go_sem]
  replace hu := hu.drew
  have qa' : SayS0 ba a W.drew := qa
  refine CallP.mono (infoKnown_any _ _) ?_
  rintro v W1 ⟨rfl, hW1⟩
  replace hu : Upd noB w W1 := by rw [hW1]; exact hu
  replace qa : SayS0 ba a W1 := by rw [hW1]; exact qa'
  clear hW1 qa'
  simp [go_sem, known10]
  haveI : Nonempty { W : World // SayS0 ba a W } := ⟨⟨W1, qa⟩⟩
  have ql := Q_load_fix (P := Tryz.prog) (W := fun i : { W : World // SayS0 ba a W } => i.1) (fun i => i.2.load)
  refine Go.Eng.Ch.opsPh_chain _ _ (SayS0 ba a) qa ?_
  simp [go_sem, ql]
  refine CallP.mono (infoSaid14 a _) ?_
  rintro v W2 ⟨rfl, u2⟩
  replace hu := hu.trans u2
  replace qa : SayS0 ba a W2 := u2.get qa (fun h => h)
  simp [go_sem, Go.Eng.Ch.contJ_app qa]
  refine CallP.mono (infoSameSay_any (⟨Nat.zero_le _, ha.lens.2⟩) ha.lens) ?_
  rintro v W3 ⟨x, rfl, hx, u3⟩
  replace hx := hx.trans hS
  replace hu := hu.trans u3
  replace qa : SayS0 ba a W3 := u3.get qa (fun h => h)
  have qh : W3.heap[ba]? = some (.cells a.cells 39 (0, 0)) := qa
  clear u2 u3
  cases x with
  | false =>
    have hA : ¬ sayF14.mkS (sayF14.unS A) = A := fun h => by have := hx.2 h; cases this
    simp [go_sem, Go.Eng.Ch.contJ_app qa]
    rw [sayF14.put_no hA]
    exact ⟨hu, rfl⟩
  | true =>
    have hA := hx.1 rfl
    have hk : a.kind = 0 := show a.bare.kind = 0 by rw [← ha.f, ← hA]; rfl
    simp [go_sem, Go.Eng.Ch.contJ_app qa, qh]
    refine CallP.mono (infoMay_any (ha.keep hu)) ?_
    rintro v W4 ⟨x, rfl, hy, u4⟩
    replace hu := hu.trans u4
    replace qh := u4.get qh (fun h => h)
    clear u4 qa
    cases x with
    | false =>
      have hno : ¬ A.ent.all entOk = true := fun h => by have := hy.2 ⟨h, by omega⟩; cases this
      simp [go_sem]
      rw [sayF14.put_pre hA (by show ¬ (if A.ent.all entOk = true then _ else _) = _; rw [if_neg hno]; decide)]
      show _ ∧ PutR _ _ _ (.error (if A.ent.all entOk = true then _ else _))
      rw [if_neg hno]
      exact ⟨hu, rfl⟩
    | true =>
      have hall := (hy.1 rfl).1
      by_cases hlim : 64 < A.ent.length
      · have hlim' : 64 < (a.entries.n : Int) := by omega
        have hlim2 : 64 < a.entries.n := by omega
        have hpre : sayF14.pre A = 3 := by show (if A.ent.all entOk = true then (if _ then _ else _) else _) = _; rw [if_pos hall, if_pos hlim]
        simp [go_sem, qh, hlim', hlim2]
        rw [sayF14.put_pre hA (by rw [hpre]; decide), hpre]
        exact ⟨hu, rfl⟩
      · have hlim' : ¬ 64 < (a.entries.n : Int) := by omega
        have hlim2 : ¬ 64 < a.entries.n := by omega
        have hpre : sayF14.pre A = 0 := by show (if A.ent.all entOk = true then (if _ then _ else _) else _) = _; rw [if_pos hall, if_neg hlim]
        have cn : IntKind.u64.wrap (a.entries.n : Int) = a.entries.n := wrap64 (by omega) (by omega)
        simp [go_sem, qh, hlim', hlim2]
        refine gen_load ?_
        intro Wb hWb
        have hq : Wb.heap[ba]? = some (.cells a.cells 39 (0, 0)) := by rw [hWb, heap_alloc, if_neg (by have := (Array.getElem?_eq_some_iff.1 qh).1; omega)]; exact qh
        have hc : Wb.heap[W4.heap.size]? = some (.cells #[.slice none 0 0, .int .i64 0] 148 (0, 0)) := by rw [hWb, heap_alloc, if_pos rfl]
        have hsz : Wb.heap.size = W4.heap.size + 1 := by rw [hWb]; simp
        have hub : Upd noB w Wb := by rw [hWb]; exact hu.alloc _
        have hne : ba ≠ W4.heap.size := by have := (Array.getElem?_eq_some_iff.1 qh).1; omega
        have g : IQ w Wb Wb ba W4.heap.size _ 0 (.ok []) := ⟨⟨Upd.refl _ _, ⟨by omega, rfl⟩, none, 0, 0, 0, [], hc, nil_own _ _, Nat.le_refl _, rfl, rfl⟩, hub, hq, hne, hu.size⟩
        clear hq hc hsz hub hWb
        generalize W4.heap.size = bw at g ⊢
        have qa := g.qa
        simp [go_sem, qa, cn]
        refine CallP.mono (g.n (k := 2) (by decide) (show (0 : Int) ≤ (a.entries.n : Int) by omega) (show (a.entries.n : Int) < 256 ^ 2 by omega) (by omega)) ?_
        clear qa g
        rintro v W5 g
        have qa := g.qa
        simp [go_sem, qa]
        refine CallP.mono (g.truth (k := 2) (by decide) (by omega)) ?_
        clear qa g
        rintro v W5 g
        have qa := g.qa
        simp [go_sem, qa]
        obtain ⟨res, hres⟩ : ∃ res, res = appR (leB (if a.more = true then 1 else 0) 2) (appR (leB ((a.entries.n : Int)).toNat 2) (.ok [])) := ⟨_, rfl⟩
        rw [← hres] at g
        refine den_loop (ElI w Wb ba bw a A.ent res 16) A.ent.length ?_ ?_
        · exact ⟨0, rfl, by omega, by simp [go_sem], by simp [go_sem], by simp [go_sem], by simp [go_sem, hnl], by simp [go_sem], g⟩
        clear qa g qh
        rintro m ρ W6 ⟨i, rfl, hi, g3, g6, g53, g54, g55, g⟩
        have qa := g.qa
        by_cases hlt : i < A.ent.length
        · have hlt' : (i : Int) < A.ent.length := by omega
          have hwr : IntKind.i64.wrap ((i : Int) + 1) = ((i + 1 : Nat) : Int) := wrap64_id (by omega) (by omega)
          obtain ⟨q, hidx, hK⟩ := ent_load (ha.keep g.all).ent i hlt
          obtain ⟨y, hy⟩ : ∃ y, y = A.ent[i] := ⟨_, rfl⟩
          rw [← hy] at hK
          have oky := oke y (by rw [hy]; exact List.getElem_mem hlt)
          have hey := of_decide_eq_true (List.all_eq_true.1 hall y (by rw [hy]; exact List.getElem_mem hlt))
          have ck : IntKind.u64.wrap y.kind = y.kind := wrap64 oky.kind.1 (by have := oky.kind; omega)
          have cs : IntKind.u64.wrap y.size = y.size := wrap64 hey.2.1 (by omega)
          simp [go_sem, g3, g6, g53, g54, g55, hlt', hlt, hidx, hK, EntV.row, ck]
          refine gen_call ?_
          intro W7 hW
          have u7 : Upd noB W6 W7 := by rw [hW]; exact ((Upd.refl _ _).alloc _).setB _ _ (fun h => absurd h (by omega))
          have hx7 : W7.heap[W6.heap.size]? = some (.cells #[.string y.name, .int .u8 y.kind, .int .i64 y.size] 114 (0, 0)) := by rw [hW, heap_setB, if_pos rfl, heap_alloc, if_pos rfl]; rfl
          clear hW
          have J := g.I.toZ u7 hx7
          generalize W6.heap.size = bx at J hx7 ⊢
          refine CallP.mono (infoWZ J (k := 4) (by decide) oky.kind.1 (by have := oky.kind; omega) (by omega)) ?_
          clear J hx7
          rintro v W8 J
          have hx8 := J.qx
          simp [go_sem, g3, g6, g53, g54, g55, hx8, cs]
          refine CallP.mono (infoWZ J (k := 8) (by decide) hey.2.1 (by omega) (by omega)) ?_
          clear J hx8
          rintro v W9 J
          have hx9 := J.qx
          have g9 : IQ w Wb W9 ba bw _ _ _ := ⟨J.toE, g.u, g.q, g.ne⟩
          have hbs : ∀ (k : Value → World → Prop), K_buildSlice Tryz.prog 117 1 #[(0, .string y.name)] W9 k = k (.slice (some ⟨W9.heap.size, 0, none⟩) 1 1) (W9.alloc (.cells (([y.name] : List ByteArray).map strV).toArray 9)) := fun k => slStr.buildN (P := Tryz.prog) (w := W9) 1 #[(0, .string y.name)] rfl (by simp [Value.cells]) (by decide) (by decide) k
          simp [go_sem, g3, g6, g53, g54, g55, hx9, hbs]
          refine CallP.mono (g9.texts (L := [y.name]) hT (by omega) (by simp) (by intro s hs'; simp at hs'; rw [hs']; exact oky.name) rfl) ?_
          clear J hx9 g9 hbs
          rintro v W10 g10
          simp [go_sem, g3, g6, g53, g54, g55, hwr]
          refine ⟨A.ent.length - (i + 1), by omega, i + 1, rfl, by omega, by simp [go_sem, g3], by simp [go_sem, g6], by simp [go_sem, g53], by simp [go_sem, g54], by simp [go_sem], ?_⟩
          have e : (A.ent.take (i + 1)).foldl entR res = [y.name].foldl textR (appR (leB y.size.toNat 8) (appR (leB y.kind.toNat 4) ((A.ent.take i).foldl entR res))) := by
            rw [List.take_succ_eq_append_getElem hlt, List.foldl_append, ← hy]; rfl
          rw [e]
          have eN : 16 + 536 * (i + 1) = 16 + 536 * i + 8 + 8 + 520 * ([y.name] : List ByteArray).length := by simp; omega
          rw [eN]
          exact g10
        · obtain rfl : i = A.ent.length := by omega
          rw [List.take_length] at g
          simp [go_sem, g3, g6, g53, g54, g55]
          have hput : sayF14.put A = A.ent.foldl entR res := by
            rw [sayF14.put_ok hA hpre]
            have e : sayF14.unS A = ((A.ent.length : Int), a.more, A.ent.map entTo) := by unfold sayF14; simp only [ha.f]; rfl
            rw [e, hres]
            have en : ((a.entries.n : Int)).toNat = A.ent.length := by omega
            rw [en]
            show (seqC (mostC 2 64 3) fun n => seqC (boolC 2) fun _ => listC entC n.toNat).put ((A.ent.length : Int), a.more, A.ent.map entTo) = A.ent.foldl entR (.ok (([] ++ leB A.ent.length 2) ++ leB (if a.more = true then 1 else 0) 2))
            rw [ent_fold _ _ oke (List.all_eq_true.1 hall)]
            have hm := most_put (k := 2) (m := 64) (e := 3) (x := (A.ent.length : Int)) (by omega) (by omega) (by omega)
            cases hl : (listC entC A.ent.length).put (A.ent.map entTo) with
            | error z => simp only [seqC, hm, bool2_put, Int.toNat_natCast, hl]
            | ok b => simp only [seqC, hm, bool2_put, Int.toNat_natCast, hl, List.nil_append, List.append_assoc]
          refine CallP.mono g.done ?_
          rintro r W7 ⟨u7, hr⟩
          have hr2 := PutR.base (b' := ba) hr (by have := g.u.size; omega)
          obtain ⟨v7, e7, rfl⟩ := hr.form
          simp [go_sem]
          rw [hput]
          exact ⟨u7, hr2⟩
end Go.Proofs.YtinfdomlpbikaaaGreatDoor
namespace Go.Proofs.YtinfdomlpbikaaaGreatDoor
open Go Go.Eng
set_option linter.unusedSimpArgs false
set_option linter.unusedVariables false
--BEGIN
/-! ### no error is 0 -/
section
variable {α β : Type} {C : Codec α}
end
/-! ### lists are short -/
/-! ### where a body ends -/
theorem msg_nz (l : List UInt8) : msgGet l ≠ .error 0 := by
  unfold msgGet
  intro e
  split at e
  · rename_i x hx
    injection e with e
    subst e
    unfold headGetS at hx
    split at hx
    · simp at hx
    · split at hx <;> simp at hx
  · split at e
    · exact body_nz _ _ e
    · split at e
      · split at e
        · simp at e
        · rename_i x hx
          injection e with e
          subst e
          exact body_nz _ _ hx
      · split at e
        · cases e
        · split at e
          · simp at e
          · rename_i x hx
            injection e with e
            subst e
            exact body_nz _ _ hx
end Go.Proofs.YtinfdomlpbikaaaGreatDoor

namespace Go.Proofs.YtinfdomlpbikaaaGreatDoor
open Go.Eng Go.Lib
set_option linter.unusedSimpArgs false
set_option linter.unusedVariables false
set_option maxRecDepth 100000
variable {w w0 : World}
/-! ### messages compared -/
def zeroMS : MsgS := ⟨zeroH, zeroAS, zeroSS⟩
theorem zeroM_at (w : World) : MsgAtR w zeroM zeroMS := MsgOwn.at (base := 0) ⟨rfl, zeroAskOwn _ _, zeroSayOwn _ _⟩ zeroAS_small zeroSS_small
end Go.Proofs.YtinfdomlpbikaaaGreatDoor

namespace Go.Proofs.YtinfdomlpbikaaaGreatDoor
open Go.Eng Go.Lib
set_option linter.unusedSimpArgs false
set_option linter.unusedVariables false
set_option maxRecDepth 100000
variable {w w0 : World}
/-- what may stand in what is asked, and in what is said -/
structure AskG (a : AskV) (A : AskS) : Prop where
  ok : a.ok
  st : a.strs
  dia : ∀ x ∈ A.dia, 0 ≤ x ∧ x < 65536
  lok : ∀ x ∈ A.lok, LockV.ok x
structure SayG (a : SayV) (A : SayS) : Prop where
  ok : a.ok
  ent : ∀ x ∈ A.ent, EntV.ok x
noncomputable def askPut (c : Int) (A : AskS) : Except Int (List UInt8) := match askF c with
  | some F => F.put A
  | none => .error 2
noncomputable def sayPut (c : Int) (A : SayS) : Except Int (List UInt8) := match sayF c with
  | some F => F.put A
  | none => .error 2
theorem talkPutAsk_any {c : Int} {a : AskV} {A : AskS} (h0 : 0 ≤ c) (hk : known8 c = true) (ha : AskAt w a A) (g : AskG a A) (hT : Tabs w) : CallP Tryz.prog 92 #[.int .u16 c, .agg a.cells] w (fun r w' => Upd noB w w' ∧ PutR w' w.heap.size r (askPut c A)) := by
  have hc := of_decide_eq_true hk
  have hc2 : c = 0 ∨ c = 1 ∨ c = 2 ∨ c = 3 ∨ c = 4 ∨ c = 13 := by omega
  rcases hc2 with rfl | rfl | rfl | rfl | rfl | rfl
  · have e : askPut 0 A = askF0.put A := by simp [askPut, askF]
    rw [e]
    exact talkPutAsk0 ha g.ok g.dia
  · have e : askPut 1 A = askF1.put A := by simp [askPut, askF]
    rw [e]
    exact talkPutAsk1 ha g.ok g.st.user hT
  · have e : askPut 2 A = askFz.put A := by simp [askPut, askF]
    rw [e]
    exact talkPutAsk2 ha g.ok
  · have e : askPut 3 A = askF3.put A := by simp [askPut, askF]
    rw [e]
    exact talkPutAsk3 ha g.ok g.st.share hT
  · have e : askPut 4 A = askFz.put A := by simp [askPut, askF]
    rw [e]
    exact talkPutAsk4 ha g.ok
  · have e : askPut 13 A = askFz.put A := by simp [askPut, askF]
    rw [e]
    exact talkPutAsk13 ha g.ok
theorem filePutAsk_any {c : Int} {a : AskV} {A : AskS} (h0 : 0 ≤ c) (hk : known9 c = true) (ha : AskAt w a A) (g : AskG a A) (hT : Tabs w) : CallP Tryz.prog 84 #[.int .u16 c, .agg a.cells] w (fun r w' => Upd noB w w' ∧ PutR w' w.heap.size r (askPut c A)) := by
  have hc := of_decide_eq_true hk
  have hc2 : c = 5 ∨ c = 6 ∨ c = 7 ∨ c = 8 ∨ c = 9 ∨ c = 10 := by omega
  rcases hc2 with rfl | rfl | rfl | rfl | rfl | rfl
  · have e : askPut 5 A = askF5.put A := by simp [askPut, askF]
    rw [e]
    exact filePutAsk5 ha g.ok g.st.name hT
  · have e : askPut 6 A = askFf.put A := by simp [askPut, askF]
    rw [e]
    exact filePutAsk6 ha g.ok
  · have e : askPut 7 A = askFf.put A := by simp [askPut, askF]
    rw [e]
    exact filePutAsk7 ha g.ok
  · have e : askPut 8 A = askF8.put A := by simp [askPut, askF]
    rw [e]
    exact filePutAsk8 ha g.ok
  · have e : askPut 9 A = askF9.put A := by simp [askPut, askF]
    rw [e]
    exact filePutAsk9 ha g.ok
  · have e : askPut 10 A = askF10.put A := by simp [askPut, askF]
    rw [e]
    exact filePutAsk10 ha g.ok g.lok
theorem infoPutAsk_any {c : Int} {a : AskV} {A : AskS} (h0 : 0 ≤ c) (hk : known10 c = true) (ha : AskAt w a A) (g : AskG a A) (hT : Tabs w) : CallP Tryz.prog 88 #[.int .u16 c, .agg a.cells] w (fun r w' => Upd noB w w' ∧ PutR w' w.heap.size r (askPut c A)) := by
  have hc := of_decide_eq_true hk
  have hc2 : c = 12 ∨ c = 14 ∨ c = 16 ∨ c = 17 ∨ c = 18 := by omega
  rcases hc2 with rfl | rfl | rfl | rfl | rfl
  · have e : askPut 12 A = askFz.put A := by simp [askPut, askF]
    rw [e]
    exact infoPutAsk12 ha g.ok
  · have e : askPut 14 A = askF14.put A := by simp [askPut, askF]
    rw [e]
    exact infoPutAsk14 ha g.ok g.st.pattern g.st.after hT
  · have e : askPut 16 A = askFf.put A := by simp [askPut, askF]
    rw [e]
    exact infoPutAsk16 ha g.ok
  · have e : askPut 17 A = askF17.put A := by simp [askPut, askF]
    rw [e]
    exact infoPutAsk17 ha g.ok g.st.name hT
  · have e : askPut 18 A = askF18.put A := by simp [askPut, askF]
    rw [e]
    exact infoPutAsk18 ha g.ok
theorem talkPutSay_any {c : Int} {a : SayV} {A : SayS} (h0 : 0 ≤ c) (hk : known8 c = true) (ha : SayAt w a A) (g : SayG a A) (hT : Tabs w) : CallP Tryz.prog 94 #[.int .u16 c, .agg a.cells] w (fun r w' => Upd noB w w' ∧ PutR w' w.heap.size r (sayPut c A)) := by
  have hc := of_decide_eq_true hk
  have hc2 : c = 0 ∨ c = 1 ∨ c = 2 ∨ c = 3 ∨ c = 4 ∨ c = 13 := by omega
  rcases hc2 with rfl | rfl | rfl | rfl | rfl | rfl
  · have e : sayPut 0 A = sayF0.put A := by simp [sayPut, sayF]
    rw [e]
    exact talkPutSay0 ha g.ok
  · have e : sayPut 1 A = sayFz.put A := by simp [sayPut, sayF]
    rw [e]
    exact talkPutSay1 ha g.ok
  · have e : sayPut 2 A = sayFz.put A := by simp [sayPut, sayF]
    rw [e]
    exact talkPutSay2 ha g.ok
  · have e : sayPut 3 A = sayFz.put A := by simp [sayPut, sayF]
    rw [e]
    exact talkPutSay3 ha g.ok
  · have e : sayPut 4 A = sayFz.put A := by simp [sayPut, sayF]
    rw [e]
    exact talkPutSay4 ha g.ok
  · have e : sayPut 13 A = sayFz.put A := by simp [sayPut, sayF]
    rw [e]
    exact talkPutSay13 ha g.ok
theorem filePutSay_any {c : Int} {a : SayV} {A : SayS} (h0 : 0 ≤ c) (hk : known9 c = true) (ha : SayAt w a A) (g : SayG a A) (hT : Tabs w) : CallP Tryz.prog 86 #[.int .u16 c, .agg a.cells] w (fun r w' => Upd noB w w' ∧ PutR w' w.heap.size r (sayPut c A)) := by
  have hc := of_decide_eq_true hk
  have hc2 : c = 5 ∨ c = 6 ∨ c = 7 ∨ c = 8 ∨ c = 9 ∨ c = 10 := by omega
  rcases hc2 with rfl | rfl | rfl | rfl | rfl | rfl
  · have e : sayPut 5 A = sayF5.put A := by simp [sayPut, sayF]
    rw [e]
    exact filePutSay5 ha g.ok
  · have e : sayPut 6 A = sayFz.put A := by simp [sayPut, sayF]
    rw [e]
    exact filePutSay6 ha g.ok
  · have e : sayPut 7 A = sayFz.put A := by simp [sayPut, sayF]
    rw [e]
    exact filePutSay7 ha g.ok
  · have e : sayPut 8 A = sayF8.put A := by simp [sayPut, sayF]
    rw [e]
    exact filePutSay8 ha g.ok
  · have e : sayPut 9 A = sayF9.put A := by simp [sayPut, sayF]
    rw [e]
    exact filePutSay9 ha g.ok
  · have e : sayPut 10 A = sayFz.put A := by simp [sayPut, sayF]
    rw [e]
    exact filePutSay10 ha g.ok
theorem infoPutSay_any {c : Int} {a : SayV} {A : SayS} (h0 : 0 ≤ c) (hk : known10 c = true) (ha : SayAt w a A) (g : SayG a A) (hT : Tabs w) : CallP Tryz.prog 90 #[.int .u16 c, .agg a.cells] w (fun r w' => Upd noB w w' ∧ PutR w' w.heap.size r (sayPut c A)) := by
  have hc := of_decide_eq_true hk
  have hc2 : c = 12 ∨ c = 14 ∨ c = 16 ∨ c = 17 ∨ c = 18 := by omega
  rcases hc2 with rfl | rfl | rfl | rfl | rfl
  · have e : sayPut 12 A = .error 2 := by simp [sayPut, sayF]
    rw [e]
    exact infoPutSay12 (A := A)
  · have e : sayPut 14 A = sayF14.put A := by simp [sayPut, sayF]
    rw [e]
    exact infoPutSay14 ha g.ok g.ent hT
  · have e : sayPut 16 A = sayF16.put A := by simp [sayPut, sayF]
    rw [e]
    exact infoPutSay16 ha g.ok
  · have e : sayPut 17 A = sayFz.put A := by simp [sayPut, sayF]
    rw [e]
    exact infoPutSay17 ha g.ok
  · have e : sayPut 18 A = sayF18.put A := by simp [sayPut, sayF]
    rw [e]
    exact infoPutSay18 ha g.ok
theorem bodyPut_fault {m : MsgS} (h1 : hasF m.head.flags 1) (h2 : ¬ m.head.status = 0) : bodyPut m = .ok [0, 0, 0, 0] := by unfold bodyPut; rw [if_pos h1, if_pos h2]
theorem bodyPut_say {m : MsgS} (h1 : hasF m.head.flags 1) (h2 : m.head.status = 0) : bodyPut m = sayPut m.head.command m.say := by unfold bodyPut; rw [if_pos h1, if_neg (by simpa using h2)]; rfl
theorem bodyPut_ask {m : MsgS} (h1 : ¬ hasF m.head.flags 1) : bodyPut m = askPut m.head.command m.ask := by unfold bodyPut; rw [if_neg h1]; rfl
set_option maxHeartbeats 8000000 in
theorem body_any {b : Nat} {m : MsgV} {M : MsgS} (hm : MsgAt w b m) (hM : MsgAtR w m M) (ok : m.head.ok) (hk : knownL m.head.command = true) (ga : AskG m.ask M.ask) (gs : SayG m.say M.say) (hT : Tabs w) :
    CallP Tryz.prog 38 #[.pointer (some ⟨b, 0, none⟩)] w (fun r w' => Upd noB w w' ∧ PutR w' w.heap.size r (bodyPut M)) := by
  have hf := ok.flags
  have h0 := ok.command.1
  have hm' := hm
  unfold MsgAt at hm'
  refine call_den (args := [_]) Tryz.func38 rfl rfl (by simp [Tryz.ntmps38]) ?_
  simp [go_sem, hm']
  refine CallP.mono (by_any h0 hk _) ?_
  rintro r W ⟨rfl, u1⟩
  simp [go_sem]
  refine gen_call ?_
  intro W1 hW1
  have hu : Upd noB w W1 := by rw [hW1]; exact (u1.alloc _).setB _ _ (fun h => absurd h (by have := u1.size; omega))
  have hx : W1.heap[W.heap.size]? = some (.cells (codecOf m.head.command) 92 (0, 0)) := by
    rw [hW1, heap_setB, if_pos rfl, heap_alloc, if_pos rfl]; rfl
  obtain ⟨bx, hbx⟩ : ∃ bx, bx = W.heap.size := ⟨_, rfl⟩
  rw [← hbx] at hx ⊢
  have hm1 : MsgAt W1 b m := hu.get hm (by simp [noB])
  clear hW1 u1 hbx
  have hud : Upd noB w W1.drew := hu.drew
  have hm1' := hm1
  unfold MsgAt at hm1'
  refine CallP.mono (msgFault_any hm1 hf) ?_
  rintro r W2 ⟨rfl, hW2⟩
  rw [hW2]; clear hW2; clear W2
  by_cases hrep : hasF m.head.flags 1
  · by_cases hst : m.head.status = 0
    · simp [go_sem, hrep, hst]
      rw [bodyPut_say (by rw [hM.head]; exact hrep) (by rw [hM.head]; exact hst), hM.head]
      refine CallP.mono (msgReply_any hm1 hf) ?_
      rintro r W2 ⟨rfl, hW2⟩
      rw [hW2]; clear hW2; clear W2
      have ls : ∀ _ : Unit, (Instr.loadAt 39 (.pointer (some ⟨b, 95, none⟩))).run Tryz.prog W1.drew = .ok (.agg m.say.cells) W1.drew := fun _ => loadAt_cut (Tryz.isAgg39 _) (Tryz.sizeOf39 _) (by rw [show W1.drew.heap[b]? = _ from hm1']; exact msg_cut2 m _ _)
      simp [go_sem, hrep]
      rcases known_cases h0 hk with k8 | ⟨k8, k9⟩ | ⟨k8, k9, k10⟩
      · skip
        have hx' : W1.heap[bx]? = some (.cells codecT 92 (0, 0)) := by rw [hx, codec_k8 h0 k8]
        have hx2 : W1.drew.heap[bx]? = some (.cells #[.func (.func 92) #[] #[], .func (.func 93) #[] #[], .func (.func 94) #[] #[], .func (.func 95) #[] #[]] 92 (0, 0)) := hx'
        refine draw_script [.pure 0, .pure 2, .pure 7, .still [1, 3, 4, 5, 6, 8, 9, 10], .one 11, .still [12, 13], .pure 14, .pure 15] (by kernel_rfl) (by kernel_rfl) (by kernel_rfl) ?_
        simp [go_sem, hx', hm1', codecT, codecF, codecI, Q_load_fix (W := fun _ : Unit => W1.drew) ls]
        refine CallP.mono (talkPutSay_any h0 k8 (hM.say.keep hud) gs (hT.keep0 hud)) ?_
        rintro r W3 ⟨u3, hr⟩
        have hr2 := PutR.base (b' := w.heap.size) hr hud.size
        obtain ⟨v3, e3, rfl⟩ := hr.form
        simp [go_sem]
        exact ⟨hud.trans u3, hr2⟩
      · skip
        have hx' : W1.heap[bx]? = some (.cells codecF 92 (0, 0)) := by rw [hx, codec_k9 h0 k9]
        have hx2 : W1.drew.heap[bx]? = some (.cells #[.func (.func 84) #[] #[], .func (.func 85) #[] #[], .func (.func 86) #[] #[], .func (.func 87) #[] #[]] 92 (0, 0)) := hx'
        refine draw_script [.pure 0, .pure 2, .pure 7, .still [1, 3, 4, 5, 6, 8, 9, 10], .one 11, .still [12, 13], .pure 14, .pure 15] (by kernel_rfl) (by kernel_rfl) (by kernel_rfl) ?_
        simp [go_sem, hx', hm1', codecT, codecF, codecI, Q_load_fix (W := fun _ : Unit => W1.drew) ls]
        refine CallP.mono (filePutSay_any h0 k9 (hM.say.keep hud) gs (hT.keep0 hud)) ?_
        rintro r W3 ⟨u3, hr⟩
        have hr2 := PutR.base (b' := w.heap.size) hr hud.size
        obtain ⟨v3, e3, rfl⟩ := hr.form
        simp [go_sem]
        exact ⟨hud.trans u3, hr2⟩
      · skip
        have hx' : W1.heap[bx]? = some (.cells codecI 92 (0, 0)) := by rw [hx, codec_k10 h0 k10]
        have hx2 : W1.drew.heap[bx]? = some (.cells #[.func (.func 88) #[] #[], .func (.func 89) #[] #[], .func (.func 90) #[] #[], .func (.func 91) #[] #[]] 92 (0, 0)) := hx'
        refine draw_script [.pure 0, .pure 2, .pure 7, .still [1, 3, 4, 5, 6, 8, 9, 10], .one 11, .still [12, 13], .pure 14, .pure 15] (by kernel_rfl) (by kernel_rfl) (by kernel_rfl) ?_
        simp [go_sem, hx', hm1', codecT, codecF, codecI, Q_load_fix (W := fun _ : Unit => W1.drew) ls]
        refine CallP.mono (infoPutSay_any h0 k10 (hM.say.keep hud) gs (hT.keep0 hud)) ?_
        rintro r W3 ⟨u3, hr⟩
        have hr2 := PutR.base (b' := w.heap.size) hr hud.size
        obtain ⟨v3, e3, rfl⟩ := hr.form
        simp [go_sem]
        exact ⟨hud.trans u3, hr2⟩
    · simp [go_sem, hrep, hst, make4]
      rw [bodyPut_fault (by rw [hM.head]; exact hrep) (by rw [hM.head]; exact hst)]
      exact ⟨hu.alloc _, _, rfl, own_base (own4 W1) hu.size⟩
  · simp [go_sem, hrep]
    rw [bodyPut_ask (by rw [hM.head]; exact hrep), hM.head]
    refine CallP.mono (msgReply_any hm1 hf) ?_
    rintro r W2 ⟨rfl, hW2⟩
    rw [hW2]; clear hW2; clear W2
    have ls : ∀ _ : Unit, (Instr.loadAt 34 (.pointer (some ⟨b, 26, none⟩))).run Tryz.prog W1.drew = .ok (.agg m.ask.cells) W1.drew := fun _ => loadAt_cut (Tryz.isAgg34 _) (Tryz.sizeOf34 _) (by rw [show W1.drew.heap[b]? = _ from hm1']; exact msg_cut1 m _ _)
    simp [go_sem, hrep]
    rcases known_cases h0 hk with k8 | ⟨k8, k9⟩ | ⟨k8, k9, k10⟩
    · skip
      have hx' : W1.heap[bx]? = some (.cells codecT 92 (0, 0)) := by rw [hx, codec_k8 h0 k8]
      have hx2 : W1.drew.heap[bx]? = some (.cells #[.func (.func 92) #[] #[], .func (.func 93) #[] #[], .func (.func 94) #[] #[], .func (.func 95) #[] #[]] 92 (0, 0)) := hx'
      refine draw_script [.pure 0, .pure 2, .pure 7, .still [1, 3, 4, 5, 6, 8, 9, 10], .one 11, .still [12, 13], .pure 14, .pure 15] (by kernel_rfl) (by kernel_rfl) (by kernel_rfl) ?_
      simp [go_sem, hx', hm1', codecT, codecF, codecI, Q_load_fix (W := fun _ : Unit => W1.drew) ls]
      refine CallP.mono (talkPutAsk_any h0 k8 (hM.ask.keep hud) ga (hT.keep0 hud)) ?_
      rintro r W3 ⟨u3, hr⟩
      have hr2 := PutR.base (b' := w.heap.size) hr hud.size
      obtain ⟨v3, e3, rfl⟩ := hr.form
      simp [go_sem]
      exact ⟨hud.trans u3, hr2⟩
    · skip
      have hx' : W1.heap[bx]? = some (.cells codecF 92 (0, 0)) := by rw [hx, codec_k9 h0 k9]
      have hx2 : W1.drew.heap[bx]? = some (.cells #[.func (.func 84) #[] #[], .func (.func 85) #[] #[], .func (.func 86) #[] #[], .func (.func 87) #[] #[]] 92 (0, 0)) := hx'
      refine draw_script [.pure 0, .pure 2, .pure 7, .still [1, 3, 4, 5, 6, 8, 9, 10], .one 11, .still [12, 13], .pure 14, .pure 15] (by kernel_rfl) (by kernel_rfl) (by kernel_rfl) ?_
      simp [go_sem, hx', hm1', codecT, codecF, codecI, Q_load_fix (W := fun _ : Unit => W1.drew) ls]
      refine CallP.mono (filePutAsk_any h0 k9 (hM.ask.keep hud) ga (hT.keep0 hud)) ?_
      rintro r W3 ⟨u3, hr⟩
      have hr2 := PutR.base (b' := w.heap.size) hr hud.size
      obtain ⟨v3, e3, rfl⟩ := hr.form
      simp [go_sem]
      exact ⟨hud.trans u3, hr2⟩
    · skip
      have hx' : W1.heap[bx]? = some (.cells codecI 92 (0, 0)) := by rw [hx, codec_k10 h0 k10]
      have hx2 : W1.drew.heap[bx]? = some (.cells #[.func (.func 88) #[] #[], .func (.func 89) #[] #[], .func (.func 90) #[] #[], .func (.func 91) #[] #[]] 92 (0, 0)) := hx'
      refine draw_script [.pure 0, .pure 2, .pure 7, .still [1, 3, 4, 5, 6, 8, 9, 10], .one 11, .still [12, 13], .pure 14, .pure 15] (by kernel_rfl) (by kernel_rfl) (by kernel_rfl) ?_
      simp [go_sem, hx', hm1', codecT, codecF, codecI, Q_load_fix (W := fun _ : Unit => W1.drew) ls]
      refine CallP.mono (infoPutAsk_any h0 k10 (hM.ask.keep hud) ga (hT.keep0 hud)) ?_
      rintro r W3 ⟨u3, hr⟩
      have hr2 := PutR.base (b' := w.heap.size) hr hud.size
      obtain ⟨v3, e3, rfl⟩ := hr.form
      simp [go_sem]
      exact ⟨hud.trans u3, hr2⟩
end Go.Proofs.YtinfdomlpbikaaaGreatDoor
namespace Go.Proofs.YtinfdomlpbikaaaGreatDoor
open Go.Eng Go.Lib
set_option linter.unusedSimpArgs false
set_option linter.unusedVariables false
set_option maxRecDepth 100000
def Bd {α : Type} (C : Codec α) (N : Nat) : Prop := ∀ x b, C.put x = .ok b → b.length ≤ N
theorem Bd.mono {α : Type} {C : Codec α} {N M : Nat} (h : Bd C N) (hm : N ≤ M) : Bd C M := fun x b e => Nat.le_trans (h x b e) hm
theorem bd_num (k : Nat) : Bd (numC k) k := by
  intro x b h
  simp only [numC] at h
  split at h
  · injection h with h; subst h; rw [leB_len]; exact Nat.le_refl _
  · cases h
theorem bd_chk {α : Type} {C : Codec α} {p : α → Bool} {e : Int} {N : Nat} (h : Bd C N) : Bd (chkC C p e) N := by
  intro x b hx
  simp only [chkC] at hx
  split at hx
  · exact h x b hx
  · cases hx
theorem bd_seq {α β : Type} {C : Codec α} {D : α → Codec β} {N M : Nat} (h : Bd C N) (hd : ∀ x c, C.put x = .ok c → Bd (D x) M) : Bd (seqC C D) (N + M) := by
  rintro ⟨x, y⟩ b hx
  simp only [seqC] at hx
  split at hx
  · cases hx
  · rename_i c hc
    split at hx
    · cases hx
    · rename_i d hd'
      injection hx with hx
      subst hx
      have h1 := h _ _ hc
      have h2 := hd _ _ hc _ _ hd'
      rw [List.length_append]; omega
theorem bd_most (k : Nat) (m e : Int) : Bd (mostC k m e) k := bd_chk (bd_num k)
theorem bd_zero (k : Nat) : Bd (zeroC k) k := fun x b h => bd_chk (C := numC k) (p := fun x => decide (x = 0)) (e := 5) (bd_num k) 0 b h
theorem bd_bool (k : Nat) : Bd (boolC k) k := fun x b h => bd_most k 1 5 _ b h
theorem bd_text : Bd textC 514 := fun s b h => textPut_len h
theorem bd_arr (n : Nat) : Bd (arrC n) n := by
  intro x b h
  injection h with h
  subst h
  rw [x.2]; exact Nat.le_refl _
theorem bd_list {α : Type} {C : Codec α} {N : Nat} (h : Bd C N) : ∀ n, Bd (listC C n) (n * N)
  | 0 => by
    intro x b hb
    cases x with
    | nil => injection hb with hb; subst hb; exact Nat.zero_le _
    | cons a l => cases hb
  | n + 1 => by
    intro x b hb
    cases x with
    | nil => cases hb
    | cons a l =>
      have := bd_seq (D := fun _ => listC C n) h (fun _ _ _ => bd_list h n) (a, l) b hb
      rw [Nat.add_mul]; omega
theorem bd_bytes (n : Nat) : Bd (bytesC n) n := by
  intro x b h
  simp only [bytesC] at h
  split at h
  · rename_i hl; injection h with h; subst h; omega
  · cases h
theorem most_le {k : Nat} {m e x : Int} {b : List UInt8} (h : (mostC k m e).put x = .ok b) : x ≤ m := by
  have h' : (if decide (x ≤ m) = true then (numC k).put x else .error 2) = .ok b := h
  split at h'
  · rename_i hd; simpa using hd
  · cases h'
theorem bd_data : Bd dataC 32772 := bd_seq (M := 32768) (bd_most 4 _ _) (fun x c h => (bd_bytes _).mono (by have := most_le h; omega))
theorem bd_lock : Bd lockC 20 := bd_seq (M := 12) (bd_num 8) fun _ _ _ => bd_seq (M := 4) (bd_num 8) fun _ _ _ => bd_seq (M := 2) (bd_num 2) fun _ _ _ => bd_zero 2
theorem bd_ent : Bd entC 526 := bd_seq (M := 524) (bd_most 2 _ _) fun _ _ _ => bd_seq (M := 522) (bd_zero 2) fun _ _ _ => bd_seq (M := 514) (bd_most 8 _ _) fun _ _ _ => bd_text
theorem bd_cls (c : Int) : Bd (clsC c) 516 := by
  intro x b h
  unfold clsC at h
  split at h
  · simp only [subC] at h
    split at h
    · exact Nat.le_trans (bd_num 8 _ _ h) (by decide)
    · cases h
  · split at h
    · simp only [subC] at h
      split at h
      · exact Nat.le_trans (bd_bool 2 _ _ h) (by decide)
      · cases h
    · simp only [subC] at h
      split at h
      · exact bd_seq (M := 514) (bd_bool 2) (fun _ _ _ => bd_text) _ _ h
      · cases h
theorem Fmt.bd {S : Type} (F : Fmt S) {N : Nat} (h : Bd F.C N) {s : S} {b : List UInt8} (hp : F.put s = .ok b) : b.length ≤ N := by
  unfold Fmt.put at hp
  split at hp
  · split at hp
    · exact h _ _ hp
    · cases hp
  · cases hp
theorem bd_askF0 : Bd askF0.C 40000 := (bd_seq (M := 48) (bd_most 2 16 3) fun x c h => bd_seq (M := 16) ((bd_list (bd_num 2) x.toNat).mono (by have := most_le h; omega)) fun _ _ _ => bd_arr 16).mono (by decide)
theorem bd_askF1 : Bd askF1.C 40000 := (bd_seq (M := 514) (bd_arr 32) fun _ _ _ => bd_text).mono (by decide)
theorem bd_askF3 : Bd askF3.C 40000 := bd_text.mono (by decide)
theorem bd_askFz : Bd askFz.C 40000 := (bd_zero 4).mono (by decide)
theorem bd_askF5 : Bd askF5.C 40000 := (bd_seq (bd_num 4) fun _ _ _ => bd_seq (bd_num 4) fun _ _ _ => bd_seq (bd_num 4) fun _ _ _ => bd_seq (bd_num 4) fun _ _ _ => bd_seq (bd_num 1) fun _ _ _ => bd_seq (bd_num 1) fun _ _ _ => bd_seq (bd_zero 2) fun _ _ _ => bd_seq (bd_num 8) fun _ _ _ => bd_text).mono (by decide)
theorem bd_askFf : Bd askFf.C 40000 := (bd_num 8).mono (by decide)
theorem bd_askF8 : Bd askF8.C 40000 := (bd_seq (bd_num 8) fun _ _ _ => bd_seq (bd_num 8) fun _ _ _ => bd_num 4).mono (by decide)
theorem bd_askF9 : Bd askF9.C 40000 := (bd_seq (bd_num 8) fun _ _ _ => bd_seq (bd_num 8) fun _ _ _ => bd_data).mono (by decide)
theorem bd_askF10 : Bd askF10.C 40000 := (bd_seq (bd_num 8) fun _ _ _ => bd_seq (M := 322) (bd_most 2 16 3) fun x c h => bd_seq (M := 320) (bd_zero 2) fun _ _ _ => (bd_list bd_lock x.toNat).mono (by have := most_le h; omega)).mono (by decide)
theorem bd_askF14 : Bd askF14.C 40000 := (bd_seq (bd_num 8) fun _ _ _ => bd_seq (bd_num 2) fun _ _ _ => bd_seq (bd_zero 2) fun _ _ _ => bd_seq bd_text fun _ _ _ => bd_text).mono (by decide)
theorem bd_askF17 : Bd askF17.C 40000 := (bd_seq (bd_num 8) fun _ _ _ => bd_seq (bd_chk (bd_num 2)) fun c _ _ => bd_cls c).mono (by decide)
theorem bd_askF18 : Bd askF18.C 40000 := (bd_seq (bd_num 8) fun _ _ _ => bd_seq (bd_num 1) fun _ _ _ => bd_seq (bd_zero 1) fun _ _ _ => bd_zero 2).mono (by decide)
theorem bd_sayF0 : Bd sayF0.C 40000 := (bd_seq (bd_num 2) fun _ _ _ => bd_seq (bd_zero 2) fun _ _ _ => bd_seq (bd_num 4) fun _ _ _ => bd_arr 8).mono (by decide)
theorem bd_sayFz : Bd sayFz.C 40000 := (bd_zero 4).mono (by decide)
theorem bd_sayF5 : Bd sayF5.C 40000 := (bd_seq (bd_num 1) fun _ _ _ => bd_seq (bd_num 1) fun _ _ _ => bd_seq (bd_most 2 _ _) fun _ _ _ => bd_seq (bd_num 8) fun _ _ _ => bd_seq (bd_num 8) fun _ _ _ => bd_seq (bd_most 2 _ _) fun _ _ _ => bd_zero 2).mono (by decide)
theorem bd_sayF8 : Bd sayF8.C 40000 := bd_data.mono (by decide)
theorem bd_sayF9 : Bd sayF9.C 40000 := (bd_num 4).mono (by decide)
theorem bd_sayF14 : Bd sayF14.C 40000 := (bd_seq (M := 33666) (bd_most 2 64 3) fun x c h => bd_seq (M := 33664) (bd_bool 2) fun _ _ _ => (bd_list bd_ent x.toNat).mono (by have := most_le h; omega)).mono (by decide)
theorem bd_sayF16 : Bd sayF16.C 40000 := (bd_seq (bd_num 8) fun _ _ _ => bd_seq (bd_most 2 _ _) fun _ _ _ => bd_bool 2).mono (by decide)
theorem bd_sayF18 : Bd sayF18.C 40000 := (bd_seq (bd_num 8) fun _ _ _ => bd_seq (bd_num 1) fun _ _ _ => bd_seq (bd_zero 1) fun _ _ _ => bd_zero 2).mono (by decide)
theorem askPut_len {c : Int} {A : AskS} {b : List UInt8} (h : askPut c A = .ok b) : b.length ≤ 40000 := by
  unfold askPut at h
  cases hF : askF c with
  | none => rw [hF] at h; cases h
  | some F =>
    rw [hF] at h
    refine F.bd (N := 40000) ?_ h
    unfold askF at hF
    by_cases hc : c = 0
    · rw [if_pos hc] at hF
      obtain rfl := Option.some.inj hF
      exact bd_askF0
    · rw [if_neg hc] at hF
      clear hc
      by_cases hc : c = 1
      · rw [if_pos hc] at hF
        obtain rfl := Option.some.inj hF
        exact bd_askF1
      · rw [if_neg hc] at hF
        clear hc
        by_cases hc : c = 3
        · rw [if_pos hc] at hF
          obtain rfl := Option.some.inj hF
          exact bd_askF3
        · rw [if_neg hc] at hF
          clear hc
          by_cases hc : c = 2 ∨ c = 4 ∨ c = 12 ∨ c = 13
          · rw [if_pos hc] at hF
            obtain rfl := Option.some.inj hF
            exact bd_askFz
          · rw [if_neg hc] at hF
            clear hc
            by_cases hc : c = 5
            · rw [if_pos hc] at hF
              obtain rfl := Option.some.inj hF
              exact bd_askF5
            · rw [if_neg hc] at hF
              clear hc
              by_cases hc : c = 6 ∨ c = 7 ∨ c = 16
              · rw [if_pos hc] at hF
                obtain rfl := Option.some.inj hF
                exact bd_askFf
              · rw [if_neg hc] at hF
                clear hc
                by_cases hc : c = 8
                · rw [if_pos hc] at hF
                  obtain rfl := Option.some.inj hF
                  exact bd_askF8
                · rw [if_neg hc] at hF
                  clear hc
                  by_cases hc : c = 9
                  · rw [if_pos hc] at hF
                    obtain rfl := Option.some.inj hF
                    exact bd_askF9
                  · rw [if_neg hc] at hF
                    clear hc
                    by_cases hc : c = 10
                    · rw [if_pos hc] at hF
                      obtain rfl := Option.some.inj hF
                      exact bd_askF10
                    · rw [if_neg hc] at hF
                      clear hc
                      by_cases hc : c = 14
                      · rw [if_pos hc] at hF
                        obtain rfl := Option.some.inj hF
                        exact bd_askF14
                      · rw [if_neg hc] at hF
                        clear hc
                        by_cases hc : c = 17
                        · rw [if_pos hc] at hF
                          obtain rfl := Option.some.inj hF
                          exact bd_askF17
                        · rw [if_neg hc] at hF
                          clear hc
                          by_cases hc : c = 18
                          · rw [if_pos hc] at hF
                            obtain rfl := Option.some.inj hF
                            exact bd_askF18
                          · rw [if_neg hc] at hF
                            clear hc
                            cases hF
theorem sayPut_len {c : Int} {A : SayS} {b : List UInt8} (h : sayPut c A = .ok b) : b.length ≤ 40000 := by
  unfold sayPut at h
  cases hF : sayF c with
  | none => rw [hF] at h; cases h
  | some F =>
    rw [hF] at h
    refine F.bd (N := 40000) ?_ h
    unfold sayF at hF
    by_cases hc : c = 0
    · rw [if_pos hc] at hF
      obtain rfl := Option.some.inj hF
      exact bd_sayF0
    · rw [if_neg hc] at hF
      clear hc
      by_cases hc : c = 1 ∨ c = 2 ∨ c = 3 ∨ c = 4 ∨ c = 13 ∨ c = 6 ∨ c = 7 ∨ c = 10 ∨ c = 17
      · rw [if_pos hc] at hF
        obtain rfl := Option.some.inj hF
        exact bd_sayFz
      · rw [if_neg hc] at hF
        clear hc
        by_cases hc : c = 5
        · rw [if_pos hc] at hF
          obtain rfl := Option.some.inj hF
          exact bd_sayF5
        · rw [if_neg hc] at hF
          clear hc
          by_cases hc : c = 8
          · rw [if_pos hc] at hF
            obtain rfl := Option.some.inj hF
            exact bd_sayF8
          · rw [if_neg hc] at hF
            clear hc
            by_cases hc : c = 9
            · rw [if_pos hc] at hF
              obtain rfl := Option.some.inj hF
              exact bd_sayF9
            · rw [if_neg hc] at hF
              clear hc
              by_cases hc : c = 14
              · rw [if_pos hc] at hF
                obtain rfl := Option.some.inj hF
                exact bd_sayF14
              · rw [if_neg hc] at hF
                clear hc
                by_cases hc : c = 16
                · rw [if_pos hc] at hF
                  obtain rfl := Option.some.inj hF
                  exact bd_sayF16
                · rw [if_neg hc] at hF
                  clear hc
                  by_cases hc : c = 18
                  · rw [if_pos hc] at hF
                    obtain rfl := Option.some.inj hF
                    exact bd_sayF18
                  · rw [if_neg hc] at hF
                    clear hc
                    cases hF
theorem bodyPut_len {M : MsgS} {b : List UInt8} (h : bodyPut M = .ok b) : b.length ≤ 40000 := by
  by_cases h1 : hasF M.head.flags 1
  · by_cases h2 : M.head.status = 0
    · rw [bodyPut_say h1 h2] at h; exact sayPut_len h
    · rw [bodyPut_fault h1 h2] at h; injection h with h; subst h; decide
  · rw [bodyPut_ask h1] at h; exact askPut_len h
end Go.Proofs.YtinfdomlpbikaaaGreatDoor
namespace Go.Proofs.YtinfdomlpbikaaaGreatDoor
open Go.Eng Go.Lib
set_option linter.unusedSimpArgs false
set_option linter.unusedVariables false
set_option maxRecDepth 100000
variable {w w0 : World}
theorem none_iff {a : AskV} {A : AskS} (ha : AskAt w a A) : a.noneP ↔ A = zeroAS := by
  obtain ⟨n1, n2, n3⟩ := ha.nums
  constructor
  · rintro ⟨h1, h2⟩
    have d1 : A.dia = [] := List.length_eq_zero_iff.1 (by omega)
    have d2 : A.dat = [] := List.length_eq_zero_iff.1 (by omega)
    have d3 : A.lok = [] := List.length_eq_zero_iff.1 (by omega)
    have hf := ha.f
    cases A
    simp only at *
    rw [d1, d2, d3, hf, h1]
    rfl
  · rintro rfl
    refine ⟨ha.f.symm, ?_⟩
    rw [n1, n2, n3]
    rfl
theorem silent_iff {a : SayV} {A : SayS} (ha : SayAt w a A) : a.silentP ↔ A = zeroSS := by
  obtain ⟨n1, n2⟩ := ha.nums
  constructor
  · rintro ⟨h1, h2⟩
    have d1 : A.dat = [] := List.length_eq_zero_iff.1 (by omega)
    have d2 : A.ent = [] := List.length_eq_zero_iff.1 (by omega)
    have hf := ha.f
    cases A
    simp only at *
    rw [d1, d2, hf, h1]
    rfl
  · rintro rfl
    refine ⟨ha.f.symm, ?_⟩
    rw [n1, n2]
    rfl
theorem may_known {h : HeadV} (hm : mayL h = true) : knownL h.command = true := by
  unfold mayL at hm
  simp at hm
  exact hm.1
theorem msgPut_no {M : MsgS} (h : ¬ (mayL M.head = true ∧ idle M)) : msgPut M = .error 2 := by unfold msgPut; rw [if_neg h]
theorem msgPut_yes {M : MsgS} (h : mayL M.head = true) (hi : idle M) : msgPut M = match bodyPut M with
    | .error e => .error e
    | .ok b => .ok (headB M.head ++ b ++ padOf M.head (64 + b.length)) := by
  unfold msgPut
  rw [if_pos ⟨h, hi⟩]
  cases bodyPut M <;> rfl
def padC (h : HeadV) (n : Nat) : Nat := if h.next = 0 then 0 else padN n
theorem padC_eq (h : HeadV) (n : Nat) : padOf h n = List.replicate (padC h n) 0 := by
  unfold padOf padC
  split <;> rfl
def PNz {α : Type} (C : Codec α) : Prop := ∀ x e, C.put x = .error e → e ≠ 0
theorem nz_two {α : Type} {e : Int} (h : (Except.error 2 : Except Int α) = .error e) : e ≠ 0 := by injection h with h; omega
theorem pn_num (k : Nat) : PNz (numC k) := by
  intro x e h
  simp only [numC] at h
  split at h
  · cases h
  · exact nz_two h
theorem pn_chk {α : Type} {C : Codec α} {p : α → Bool} {c : Int} (h : PNz C) : PNz (chkC C p c) := by
  intro x e hx
  simp only [chkC] at hx
  split at hx
  · exact h x e hx
  · exact nz_two hx
theorem pn_seq {α β : Type} {C : Codec α} {D : α → Codec β} (h : PNz C) (hd : ∀ x, PNz (D x)) : PNz (seqC C D) := by
  rintro ⟨x, y⟩ e hx
  simp only [seqC] at hx
  split at hx
  · rename_i e' he; injection hx with hx; subst hx; exact h _ _ he
  · split at hx
    · rename_i e' he; injection hx with hx; subst hx; exact hd _ _ _ he
    · cases hx
theorem pn_most (k : Nat) (m e : Int) : PNz (mostC k m e) := pn_chk (pn_num k)
theorem pn_zero (k : Nat) : PNz (zeroC k) := fun x e h => pn_chk (C := numC k) (p := fun x => decide (x = 0)) (c := 5) (pn_num k) 0 e h
theorem pn_bool (k : Nat) : PNz (boolC k) := fun x e h => pn_most k 1 5 _ e h
theorem pn_text : PNz textC := fun s e h => textPut_err h
theorem pn_arr (n : Nat) : PNz (arrC n) := fun x e h => by cases h
theorem pn_list {α : Type} {C : Codec α} (h : PNz C) : ∀ n, PNz (listC C n)
  | 0 => by
    intro x e hb
    cases x with
    | nil => cases hb
    | cons a l => exact nz_two hb
  | n + 1 => by
    intro x e hb
    cases x with
    | nil => exact nz_two hb
    | cons a l => exact pn_seq (D := fun _ => listC C n) h (fun _ => pn_list h n) (a, l) e hb
theorem pn_bytes (n : Nat) : PNz (bytesC n) := by
  intro x e h
  simp only [bytesC] at h
  split at h
  · cases h
  · exact nz_two h
theorem pn_data : PNz dataC := pn_seq (pn_most 4 _ _) (fun x => pn_bytes _)
theorem pn_lock : PNz lockC := pn_seq (pn_num 8) fun _ => pn_seq (pn_num 8) fun _ => pn_seq (pn_num 2) fun _ => pn_zero 2
theorem pn_ent : PNz entC := pn_seq (pn_most 2 _ _) fun _ => pn_seq (pn_zero 2) fun _ => pn_seq (pn_most 8 _ _) fun _ => pn_text
theorem pn_cls (c : Int) : PNz (clsC c) := by
  intro x e h
  unfold clsC at h
  split at h
  · simp only [subC] at h
    split at h
    · exact pn_num 8 _ _ h
    · exact nz_two h
  · split at h
    · simp only [subC] at h
      split at h
      · exact pn_bool 2 _ _ h
      · exact nz_two h
    · simp only [subC] at h
      split at h
      · exact pn_seq (pn_bool 2) (fun _ => pn_text) _ _ h
      · exact nz_two h
theorem Fmt.pn {S : Type} (F : Fmt S) (h : PNz F.C) {s : S} {e : Int} (hp : F.put s = .error e) : e ≠ 0 := by
  unfold Fmt.put at hp
  split at hp
  · split at hp
    · exact h _ _ hp
    · rename_i hn; injection hp with hp; subst hp; exact hn
  · exact nz_two hp
theorem pn_askF0 : PNz askF0.C := pn_seq (pn_most 2 _ _) fun n => pn_seq (pn_list (pn_num 2) n.toNat) fun _ => pn_arr 16
theorem pn_askF1 : PNz askF1.C := pn_seq (pn_arr 32) fun _ => pn_text
theorem pn_askF3 : PNz askF3.C := pn_text
theorem pn_askFz : PNz askFz.C := pn_zero 4
theorem pn_askF5 : PNz askF5.C := pn_seq (pn_num 4) fun _ => pn_seq (pn_num 4) fun _ => pn_seq (pn_num 4) fun _ => pn_seq (pn_num 4) fun _ => pn_seq (pn_num 1) fun _ => pn_seq (pn_num 1) fun _ => pn_seq (pn_zero 2) fun _ => pn_seq (pn_num 8) fun _ => pn_text
theorem pn_askFf : PNz askFf.C := pn_num 8
theorem pn_askF8 : PNz askF8.C := pn_seq (pn_num 8) fun _ => pn_seq (pn_num 8) fun _ => pn_num 4
theorem pn_askF9 : PNz askF9.C := pn_seq (pn_num 8) fun _ => pn_seq (pn_num 8) fun _ => pn_data
theorem pn_askF10 : PNz askF10.C := pn_seq (pn_num 8) fun _ => pn_seq (pn_most 2 _ _) fun n => pn_seq (pn_zero 2) fun _ => pn_list pn_lock n.toNat
theorem pn_askF14 : PNz askF14.C := pn_seq (pn_num 8) fun _ => pn_seq (pn_num 2) fun _ => pn_seq (pn_zero 2) fun _ => pn_seq pn_text fun _ => pn_text
theorem pn_askF17 : PNz askF17.C := pn_seq (pn_num 8) fun _ => pn_seq (pn_chk (pn_num 2)) fun c => pn_cls c
theorem pn_askF18 : PNz askF18.C := pn_seq (pn_num 8) fun _ => pn_seq (pn_num 1) fun _ => pn_seq (pn_zero 1) fun _ => pn_zero 2
theorem pn_sayF0 : PNz sayF0.C := pn_seq (pn_num 2) fun _ => pn_seq (pn_zero 2) fun _ => pn_seq (pn_num 4) fun _ => pn_arr 8
theorem pn_sayFz : PNz sayFz.C := pn_zero 4
theorem pn_sayF5 : PNz sayF5.C := pn_seq (pn_num 1) fun _ => pn_seq (pn_num 1) fun _ => pn_seq (pn_most 2 _ _) fun _ => pn_seq (pn_num 8) fun _ => pn_seq (pn_num 8) fun _ => pn_seq (pn_most 2 _ _) fun _ => pn_zero 2
theorem pn_sayF8 : PNz sayF8.C := pn_data
theorem pn_sayF9 : PNz sayF9.C := pn_num 4
theorem pn_sayF14 : PNz sayF14.C := pn_seq (pn_most 2 _ _) fun n => pn_seq (pn_bool 2) fun _ => pn_list pn_ent n.toNat
theorem pn_sayF16 : PNz sayF16.C := pn_seq (pn_num 8) fun _ => pn_seq (pn_most 2 _ _) fun _ => pn_bool 2
theorem pn_sayF18 : PNz sayF18.C := pn_seq (pn_num 8) fun _ => pn_seq (pn_num 1) fun _ => pn_seq (pn_zero 1) fun _ => pn_zero 2
theorem askPut_nz {c : Int} {A : AskS} {e : Int} (h : askPut c A = .error e) : e ≠ 0 := by
  unfold askPut at h
  cases hF : askF c with
  | none => rw [hF] at h; exact nz_two h
  | some F =>
    rw [hF] at h
    refine F.pn ?_ h
    unfold askF at hF
    by_cases hc : c = 0
    · rw [if_pos hc] at hF
      obtain rfl := Option.some.inj hF
      exact pn_askF0
    · rw [if_neg hc] at hF
      clear hc
      by_cases hc : c = 1
      · rw [if_pos hc] at hF
        obtain rfl := Option.some.inj hF
        exact pn_askF1
      · rw [if_neg hc] at hF
        clear hc
        by_cases hc : c = 3
        · rw [if_pos hc] at hF
          obtain rfl := Option.some.inj hF
          exact pn_askF3
        · rw [if_neg hc] at hF
          clear hc
          by_cases hc : c = 2 ∨ c = 4 ∨ c = 12 ∨ c = 13
          · rw [if_pos hc] at hF
            obtain rfl := Option.some.inj hF
            exact pn_askFz
          · rw [if_neg hc] at hF
            clear hc
            by_cases hc : c = 5
            · rw [if_pos hc] at hF
              obtain rfl := Option.some.inj hF
              exact pn_askF5
            · rw [if_neg hc] at hF
              clear hc
              by_cases hc : c = 6 ∨ c = 7 ∨ c = 16
              · rw [if_pos hc] at hF
                obtain rfl := Option.some.inj hF
                exact pn_askFf
              · rw [if_neg hc] at hF
                clear hc
                by_cases hc : c = 8
                · rw [if_pos hc] at hF
                  obtain rfl := Option.some.inj hF
                  exact pn_askF8
                · rw [if_neg hc] at hF
                  clear hc
                  by_cases hc : c = 9
                  · rw [if_pos hc] at hF
                    obtain rfl := Option.some.inj hF
                    exact pn_askF9
                  · rw [if_neg hc] at hF
                    clear hc
                    by_cases hc : c = 10
                    · rw [if_pos hc] at hF
                      obtain rfl := Option.some.inj hF
                      exact pn_askF10
                    · rw [if_neg hc] at hF
                      clear hc
                      by_cases hc : c = 14
                      · rw [if_pos hc] at hF
                        obtain rfl := Option.some.inj hF
                        exact pn_askF14
                      · rw [if_neg hc] at hF
                        clear hc
                        by_cases hc : c = 17
                        · rw [if_pos hc] at hF
                          obtain rfl := Option.some.inj hF
                          exact pn_askF17
                        · rw [if_neg hc] at hF
                          clear hc
                          by_cases hc : c = 18
                          · rw [if_pos hc] at hF
                            obtain rfl := Option.some.inj hF
                            exact pn_askF18
                          · rw [if_neg hc] at hF
                            clear hc
                            cases hF
theorem sayPut_nz {c : Int} {A : SayS} {e : Int} (h : sayPut c A = .error e) : e ≠ 0 := by
  unfold sayPut at h
  cases hF : sayF c with
  | none => rw [hF] at h; exact nz_two h
  | some F =>
    rw [hF] at h
    refine F.pn ?_ h
    unfold sayF at hF
    by_cases hc : c = 0
    · rw [if_pos hc] at hF
      obtain rfl := Option.some.inj hF
      exact pn_sayF0
    · rw [if_neg hc] at hF
      clear hc
      by_cases hc : c = 1 ∨ c = 2 ∨ c = 3 ∨ c = 4 ∨ c = 13 ∨ c = 6 ∨ c = 7 ∨ c = 10 ∨ c = 17
      · rw [if_pos hc] at hF
        obtain rfl := Option.some.inj hF
        exact pn_sayFz
      · rw [if_neg hc] at hF
        clear hc
        by_cases hc : c = 5
        · rw [if_pos hc] at hF
          obtain rfl := Option.some.inj hF
          exact pn_sayF5
        · rw [if_neg hc] at hF
          clear hc
          by_cases hc : c = 8
          · rw [if_pos hc] at hF
            obtain rfl := Option.some.inj hF
            exact pn_sayF8
          · rw [if_neg hc] at hF
            clear hc
            by_cases hc : c = 9
            · rw [if_pos hc] at hF
              obtain rfl := Option.some.inj hF
              exact pn_sayF9
            · rw [if_neg hc] at hF
              clear hc
              by_cases hc : c = 14
              · rw [if_pos hc] at hF
                obtain rfl := Option.some.inj hF
                exact pn_sayF14
              · rw [if_neg hc] at hF
                clear hc
                by_cases hc : c = 16
                · rw [if_pos hc] at hF
                  obtain rfl := Option.some.inj hF
                  exact pn_sayF16
                · rw [if_neg hc] at hF
                  clear hc
                  by_cases hc : c = 18
                  · rw [if_pos hc] at hF
                    obtain rfl := Option.some.inj hF
                    exact pn_sayF18
                  · rw [if_neg hc] at hF
                    clear hc
                    cases hF
theorem bodyPut_nz {M : MsgS} {e : Int} (h : bodyPut M = .error e) : e ≠ 0 := by
  by_cases h1 : hasF M.head.flags 1
  · by_cases h2 : M.head.status = 0
    · rw [bodyPut_say h1 h2] at h; exact sayPut_nz h
    · rw [bodyPut_fault h1 h2] at h; cases h
  · rw [bodyPut_ask h1] at h; exact askPut_nz h
def PdI (w : World) (b1 base : Nat) (m : MsgV) (L : List UInt8) (P : Nat) (j : Nat) (ρ : Env) (W : World) : Prop :=
  ∃ (i : Nat) (v : Value), j = P - i ∧ i ≤ P ∧ ρ 4 = .pointer (some ⟨b1, 0, none⟩) ∧ ρ 7 = v ∧ Upd noB w W ∧ MsgAt W b1 m ∧ OwnB W base v (L ++ List.replicate i 0) ∧ base ≤ W.heap.size ∧ b1 < base
set_option maxHeartbeats 8000000 in
theorem put_any {m : MsgV} {M : MsgS} (hM : MsgAtR w m M) (ok : m.head.ok) (ga : AskG m.ask M.ask) (gs : SayG m.say M.say) (hT : Tabs w) :
    CallP Tryz.prog 12 #[.agg m.cells] w (fun r w' => Upd noB w w' ∧ PutR w' w.heap.size r (msgPut M)) := by
  have hf := ok.flags
  refine call_den (args := [_]) Tryz.func12 rfl rfl (by simp [Tryz.ntmps12]) ?_
  simp [go_sem]
  refine gen_call ?_
  intro W hW
  have hu : Upd noB w W := by rw [hW]; exact (by repeat (first | exact Upd.refl _ _ | refine Upd.alloc ?_ _ | refine Upd.drew ?_ | refine Upd.drewN ?_ _ | refine Upd.setB ?_ _ _ (fun h => absurd h (by omega))))
  have hb : MsgAt W (w.heap.size + 1) m := by unfold MsgAt; rw [hW, heap_alloc, if_pos (by simp)]
  have hlt : w.heap.size + 1 < W.heap.size := by rw [hW]; simp
  clear hW
  refine CallP.mono (headPut_any m.head ok W) ?_
  rintro r W2 ⟨u2, hres⟩
  have hu2 := hu.trans u2
  have hb2 : MsgAt W2 (w.heap.size + 1) m := u2.get hb (by simp [noB])
  have hb2' := hb2
  unfold MsgAt at hb2'
  by_cases hmay : mayL m.head = true
  · rw [if_pos hmay] at hres
    obtain ⟨v, rfl, own⟩ := hres
    simp [go_sem]
    refine CallP.mono (msgReply_any hb2 hf) ?_
    rintro r W3 ⟨rfl, hW3⟩
    rw [hW3]; clear hW3; clear W3
    by_cases hrep : hasF m.head.flags 1
    · simp [go_sem, hrep, hb2']
      refine CallP.mono (none_any ga.ok (hM.ask.keep hu2).lens ga.st) ?_
      rintro r W4 ⟨x, rfl, hx, u4⟩
      replace hx := hx.trans (none_iff hM.ask)
      cases x with
      | false =>
        simp [go_sem]
        rw [msgPut_no (fun h => by have := hx.2 (h.2.1 (by rw [hM.head]; exact hrep)); cases this)]
        exact ⟨hu2.trans u4, rfl⟩
      | true =>
        have hA := hx.1 rfl
        have hb4 : MsgAt W4 (w.heap.size + 1) m := u4.get hb2 (by simp [noB])
        have hb4' := hb4
        unfold MsgAt at hb4'
        simp [go_sem]
        refine CallP.mono (msgReply_any hb4 hf) ?_
        rintro r W5 ⟨rfl, hW5⟩
        rw [hW5]; clear hW5; clear W5
        simp [go_sem, hrep]
        refine CallP.mono (msgFault_any hb4 hf) ?_
        rintro r W5 ⟨rfl, hW5⟩
        rw [hW5]; clear hW5; clear W5
        by_cases hst : m.head.status = 0
        · have hidle : idle M := ⟨fun _ => hA, fun h => by rw [hM.head] at h; rcases h with h | h; exact absurd hrep h; exact absurd hst h⟩
          simp [go_sem, hrep, hst, hb4']
          obtain ⟨WX, hWX⟩ : ∃ WX, WX = W4 := ⟨_, rfl⟩
          rw [← hWX]
          have uX : Upd noB W2 WX := (by rw [hWX]; exact u4)
          have hbX : MsgAt WX (w.heap.size + 1) m := uX.get hb2 (by simp [noB])
          have huX := hu2.trans uX
          refine CallP.mono (body_any hbX ⟨hM.head, (hM.ask.keep huX), (hM.say.keep huX)⟩ ok (may_known hmay) ga gs (hT.keep0 huX)) ?_
          rintro r W7 ⟨u7, hr⟩
          rw [msgPut_yes (by rw [hM.head]; exact hmay) hidle]
          cases hbp : bodyPut M with
          | error e =>
            rw [hbp] at hr
            simp only [PutR] at hr
            subst hr
            have hz := bodyPut_nz hbp
            simp [go_sem, hz]
            exact ⟨huX.trans u7, rfl⟩
          | ok bd =>
            rw [hbp] at hr
            simp only [PutR] at hr
            obtain ⟨v2, rfl, own7⟩ := hr
            have hbl := bodyPut_len hbp
            have own' : OwnB W7 W.heap.size v (headB m.head) := own_keep0 (own_keep0 own uX) u7
            have hb7 : MsgAt W7 (w.heap.size + 1) m := u7.get hbX (by simp [noB])
            have hsz := u2.size
            have hszX := uX.size
            have hsz7 := u7.size
            have hbig : w.heap.size + 1 < W.heap.size := hlt
            obtain ⟨p3, n3, c3, W8, hrun, own8, u8⟩ := OwnB.appendN own' own7.at 31 (by rw [headB_len]; omega) (by omega)
            have hb8 : MsgAt W8 (w.heap.size + 1) m := u8.get hb7 (by omega)
            have hu8 : Upd noB w W8 := (huX.trans u7).trans' u8 (fun i hi hlt => by have := hu.size; omega)
            simp [go_sem, K_append_ok _ _ _ _ hrun]
            clear hrun own7 own' own u7 uX hb7 hbX hb2
            obtain ⟨L, hL⟩ : ∃ L, L = headB m.head ++ bd := ⟨_, rfl⟩
            have hLl : L.length = 64 + bd.length := by rw [hL, List.length_append, headB_len]
            rw [← hL] at own8
            have hfin : headB M.head ++ (bd ++ padOf M.head (64 + bd.length)) = L ++ List.replicate (padC m.head L.length) 0 := by rw [← List.append_assoc, hM.head, ← hL, padC_eq, hLl]
            have hpl : padC m.head L.length ≤ 7 := by unfold padC padN; split <;> omega
            refine den_loop (PdI w (w.heap.size + 1) W.heap.size m L (padC m.head L.length)) (padC m.head L.length) ?_ ?_
            · exact ⟨0, .slice p3 n3 c3, rfl, Nat.zero_le _, by simp [go_sem], by simp [go_sem], hu8, hb8, by simpa using own8, by have := u8.size; omega, hbig⟩
            clear own8 u8 hb8 hu8
            rintro j ρ W9 ⟨i, v9, rfl, hi, g4, g7, hu9, hb9, own9, hbase9, hbb⟩
            have hb9' := hb9
            unfold MsgAt at hb9'
            have hlen : (L ++ List.replicate i 0).length = L.length + i := by simp
            obtain ⟨p9, c9, rfl, hc9⟩ := own9.at.len
            rw [hlen] at g7 hc9 own9
            have hnx := ok.next
            have hrm : ((L.length : Int) + (i : Int)).tmod 8 = (((L.length + i) % 8 : Nat) : Int) := by rw [← Int.natCast_add]; rfl
            by_cases hlt : i < padC m.head L.length
            · have hnz : ¬ m.head.next = 0 := by intro h; unfold padC at hlt; rw [if_pos h] at hlt; omega
              have hpos : 0 < m.head.next := by omega
              have hmod : ¬ (L.length + i) % 8 = 0 := by unfold padC padN at hlt; rw [if_neg hnz] at hlt; omega
              have hmodI : ¬ (((L.length + i) % 8 : Nat) : Int) = 0 := by omega
              have hb1 : ∀ (w : World) (k : Value → World → Prop), K_buildSlice Tryz.prog 31 1 #[(0, .int .u8 0)] w k = k (.slice (some ⟨w.heap.size, 0, none⟩) 1 1) (w.alloc (.cells ([0].map u8V).toArray 5)) := fun w k => slByte.build1K (P := Tryz.prog) (w := w) (u8V 0) rfl (by decide) k
              have hne : (((L.length : Int) + (i : Int)).tmod 8 != 0) = true := by rw [hrm]; simp; omega
              simp [go_sem, g4, g7, hb9', hpos, hne, hb1]
              refine gen_append ?_
              intro Wa hWa
              have ua : Upd noB W9 Wa := by rw [hWa]; exact (Upd.refl _ _).alloc _
              have src : BytesAt Wa (.slice (some ⟨W9.heap.size, 0, none⟩) 1 1) [0] := by rw [hWa]; exact (fresh_bytes [0] W9 (by simp)).at
              clear hWa
              have own9a : OwnB Wa W.heap.size (.slice p9 (L.length + i) c9) (L ++ List.replicate i 0) := own_keep0 own9 ua
              obtain ⟨pz, nz, cz, Wz, hrunz, ownz, uz⟩ := OwnB.appendN own9a src 31 (by rw [hlen]; simp; omega) (by have := ua.size; omega)
              simp [K_append_ok _ _ _ _ hrunz, go_sem]
              refine ⟨padC m.head L.length - (i + 1), by omega, i + 1, .slice pz nz cz, rfl, by omega, by simp [go_sem, g4], by simp [go_sem], (hu9.trans ua).trans' uz (fun k hk hlt => by have := hu.size; omega), uz.get (ua.get hb9' (fun h => h)) (by omega), ?_, by have := ua.size; have := uz.size; omega, hbb⟩
              rw [List.replicate_succ', ← List.append_assoc]
              exact ownz
            · obtain rfl : i = padC m.head L.length := by omega
              by_cases hnz : m.head.next = 0
              · simp [go_sem, g4, g7, hb9', hnz]
                refine ⟨hu9, _, rfl, ?_⟩
                rw [hfin]
                exact own_base own9 hu.size
              · have hpos : 0 < m.head.next := by omega
                have hmod : (L.length + padC m.head L.length) % 8 = 0 := by unfold padC padN; rw [if_neg hnz]; omega
                have hne : (((L.length : Int) + (padC m.head L.length : Int)).tmod 8 != 0) = false := by rw [hrm, hmod]; rfl
                simp [go_sem, g4, g7, hb9', hpos, hne]
                refine ⟨hu9, _, rfl, ?_⟩
                rw [hfin]
                exact own_base own9 hu.size
        · simp [go_sem, hrep, hst, hb4']
          refine CallP.mono (silent_any gs.ok (hM.say.keep (hu2.trans u4)).lens) ?_
          rintro r W6 ⟨x, rfl, hx, u6⟩
          replace hx := hx.trans (silent_iff hM.say)
          cases x with
          | false =>
            simp [go_sem]
            rw [msgPut_no (fun h => by have := hx.2 (h.2.2 (Or.inr (by rw [hM.head]; exact hst))); cases this)]
            exact ⟨(hu2.trans u4).trans u6, rfl⟩
          | true =>
            have hidle : idle M := ⟨fun _ => hA, fun _ => hx.1 rfl⟩
            simp [go_sem]
            obtain ⟨WX, hWX⟩ : ∃ WX, WX = W6 := ⟨_, rfl⟩
            rw [← hWX]
            have uX : Upd noB W2 WX := (by rw [hWX]; exact u4.trans u6)
            have hbX : MsgAt WX (w.heap.size + 1) m := uX.get hb2 (by simp [noB])
            have huX := hu2.trans uX
            refine CallP.mono (body_any hbX ⟨hM.head, (hM.ask.keep huX), (hM.say.keep huX)⟩ ok (may_known hmay) ga gs (hT.keep0 huX)) ?_
            rintro r W7 ⟨u7, hr⟩
            rw [msgPut_yes (by rw [hM.head]; exact hmay) hidle]
            cases hbp : bodyPut M with
            | error e =>
              rw [hbp] at hr
              simp only [PutR] at hr
              subst hr
              have hz := bodyPut_nz hbp
              simp [go_sem, hz]
              exact ⟨huX.trans u7, rfl⟩
            | ok bd =>
              rw [hbp] at hr
              simp only [PutR] at hr
              obtain ⟨v2, rfl, own7⟩ := hr
              have hbl := bodyPut_len hbp
              have own' : OwnB W7 W.heap.size v (headB m.head) := own_keep0 (own_keep0 own uX) u7
              have hb7 : MsgAt W7 (w.heap.size + 1) m := u7.get hbX (by simp [noB])
              have hsz := u2.size
              have hszX := uX.size
              have hsz7 := u7.size
              have hbig : w.heap.size + 1 < W.heap.size := hlt
              obtain ⟨p3, n3, c3, W8, hrun, own8, u8⟩ := OwnB.appendN own' own7.at 31 (by rw [headB_len]; omega) (by omega)
              have hb8 : MsgAt W8 (w.heap.size + 1) m := u8.get hb7 (by omega)
              have hu8 : Upd noB w W8 := (huX.trans u7).trans' u8 (fun i hi hlt => by have := hu.size; omega)
              simp [go_sem, K_append_ok _ _ _ _ hrun]
              clear hrun own7 own' own u7 uX hb7 hbX hb2
              obtain ⟨L, hL⟩ : ∃ L, L = headB m.head ++ bd := ⟨_, rfl⟩
              have hLl : L.length = 64 + bd.length := by rw [hL, List.length_append, headB_len]
              rw [← hL] at own8
              have hfin : headB M.head ++ (bd ++ padOf M.head (64 + bd.length)) = L ++ List.replicate (padC m.head L.length) 0 := by rw [← List.append_assoc, hM.head, ← hL, padC_eq, hLl]
              have hpl : padC m.head L.length ≤ 7 := by unfold padC padN; split <;> omega
              refine den_loop (PdI w (w.heap.size + 1) W.heap.size m L (padC m.head L.length)) (padC m.head L.length) ?_ ?_
              · exact ⟨0, .slice p3 n3 c3, rfl, Nat.zero_le _, by simp [go_sem], by simp [go_sem], hu8, hb8, by simpa using own8, by have := u8.size; omega, hbig⟩
              clear own8 u8 hb8 hu8
              rintro j ρ W9 ⟨i, v9, rfl, hi, g4, g7, hu9, hb9, own9, hbase9, hbb⟩
              have hb9' := hb9
              unfold MsgAt at hb9'
              have hlen : (L ++ List.replicate i 0).length = L.length + i := by simp
              obtain ⟨p9, c9, rfl, hc9⟩ := own9.at.len
              rw [hlen] at g7 hc9 own9
              have hnx := ok.next
              have hrm : ((L.length : Int) + (i : Int)).tmod 8 = (((L.length + i) % 8 : Nat) : Int) := by rw [← Int.natCast_add]; rfl
              by_cases hlt : i < padC m.head L.length
              · have hnz : ¬ m.head.next = 0 := by intro h; unfold padC at hlt; rw [if_pos h] at hlt; omega
                have hpos : 0 < m.head.next := by omega
                have hmod : ¬ (L.length + i) % 8 = 0 := by unfold padC padN at hlt; rw [if_neg hnz] at hlt; omega
                have hmodI : ¬ (((L.length + i) % 8 : Nat) : Int) = 0 := by omega
                have hb1 : ∀ (w : World) (k : Value → World → Prop), K_buildSlice Tryz.prog 31 1 #[(0, .int .u8 0)] w k = k (.slice (some ⟨w.heap.size, 0, none⟩) 1 1) (w.alloc (.cells ([0].map u8V).toArray 5)) := fun w k => slByte.build1K (P := Tryz.prog) (w := w) (u8V 0) rfl (by decide) k
                have hne : (((L.length : Int) + (i : Int)).tmod 8 != 0) = true := by rw [hrm]; simp; omega
                simp [go_sem, g4, g7, hb9', hpos, hne, hb1]
                refine gen_append ?_
                intro Wa hWa
                have ua : Upd noB W9 Wa := by rw [hWa]; exact (Upd.refl _ _).alloc _
                have src : BytesAt Wa (.slice (some ⟨W9.heap.size, 0, none⟩) 1 1) [0] := by rw [hWa]; exact (fresh_bytes [0] W9 (by simp)).at
                clear hWa
                have own9a : OwnB Wa W.heap.size (.slice p9 (L.length + i) c9) (L ++ List.replicate i 0) := own_keep0 own9 ua
                obtain ⟨pz, nz, cz, Wz, hrunz, ownz, uz⟩ := OwnB.appendN own9a src 31 (by rw [hlen]; simp; omega) (by have := ua.size; omega)
                simp [K_append_ok _ _ _ _ hrunz, go_sem]
                refine ⟨padC m.head L.length - (i + 1), by omega, i + 1, .slice pz nz cz, rfl, by omega, by simp [go_sem, g4], by simp [go_sem], (hu9.trans ua).trans' uz (fun k hk hlt => by have := hu.size; omega), uz.get (ua.get hb9' (fun h => h)) (by omega), ?_, by have := ua.size; have := uz.size; omega, hbb⟩
                rw [List.replicate_succ', ← List.append_assoc]
                exact ownz
              · obtain rfl : i = padC m.head L.length := by omega
                by_cases hnz : m.head.next = 0
                · simp [go_sem, g4, g7, hb9', hnz]
                  refine ⟨hu9, _, rfl, ?_⟩
                  rw [hfin]
                  exact own_base own9 hu.size
                · have hpos : 0 < m.head.next := by omega
                  have hmod : (L.length + padC m.head L.length) % 8 = 0 := by unfold padC padN; rw [if_neg hnz]; omega
                  have hne : (((L.length : Int) + (padC m.head L.length : Int)).tmod 8 != 0) = false := by rw [hrm, hmod]; rfl
                  simp [go_sem, g4, g7, hb9', hpos, hne]
                  refine ⟨hu9, _, rfl, ?_⟩
                  rw [hfin]
                  exact own_base own9 hu.size
    · simp [go_sem, hrep, hb2']
      refine CallP.mono (msgReply_any hb2 hf) ?_
      rintro r W5 ⟨rfl, hW5⟩
      rw [hW5]; clear hW5; clear W5
      simp [go_sem, hrep, hb2']
      refine CallP.mono (silent_any gs.ok (hM.say.keep hu2).lens) ?_
      rintro r W6 ⟨x, rfl, hx, u6⟩
      replace hx := hx.trans (silent_iff hM.say)
      cases x with
      | false =>
        simp [go_sem]
        rw [msgPut_no (fun h => by have := hx.2 (h.2.2 (Or.inl (by rw [hM.head]; exact hrep))); cases this)]
        exact ⟨hu2.trans u6, rfl⟩
      | true =>
        have hidle : idle M := ⟨fun h => absurd (by rw [hM.head] at h; exact h) hrep, fun _ => hx.1 rfl⟩
        have hb6 : MsgAt W6 (w.heap.size + 1) m := u6.get hb2 (by simp [noB])
        simp [go_sem]
        refine CallP.mono (msgFault_any hb6 hf) ?_
        rintro r W5 ⟨rfl, hW5⟩
        rw [hW5]; clear hW5; clear W5
        simp [go_sem, hrep]
        obtain ⟨WX, hWX⟩ : ∃ WX, WX = W6 := ⟨_, rfl⟩
        rw [← hWX]
        have uX : Upd noB W2 WX := (by rw [hWX]; exact u6)
        have hbX : MsgAt WX (w.heap.size + 1) m := uX.get hb2 (by simp [noB])
        have huX := hu2.trans uX
        refine CallP.mono (body_any hbX ⟨hM.head, (hM.ask.keep huX), (hM.say.keep huX)⟩ ok (may_known hmay) ga gs (hT.keep0 huX)) ?_
        rintro r W7 ⟨u7, hr⟩
        rw [msgPut_yes (by rw [hM.head]; exact hmay) hidle]
        cases hbp : bodyPut M with
        | error e =>
          rw [hbp] at hr
          simp only [PutR] at hr
          subst hr
          have hz := bodyPut_nz hbp
          simp [go_sem, hz]
          exact ⟨huX.trans u7, rfl⟩
        | ok bd =>
          rw [hbp] at hr
          simp only [PutR] at hr
          obtain ⟨v2, rfl, own7⟩ := hr
          have hbl := bodyPut_len hbp
          have own' : OwnB W7 W.heap.size v (headB m.head) := own_keep0 (own_keep0 own uX) u7
          have hb7 : MsgAt W7 (w.heap.size + 1) m := u7.get hbX (by simp [noB])
          have hsz := u2.size
          have hszX := uX.size
          have hsz7 := u7.size
          have hbig : w.heap.size + 1 < W.heap.size := hlt
          obtain ⟨p3, n3, c3, W8, hrun, own8, u8⟩ := OwnB.appendN own' own7.at 31 (by rw [headB_len]; omega) (by omega)
          have hb8 : MsgAt W8 (w.heap.size + 1) m := u8.get hb7 (by omega)
          have hu8 : Upd noB w W8 := (huX.trans u7).trans' u8 (fun i hi hlt => by have := hu.size; omega)
          simp [go_sem, K_append_ok _ _ _ _ hrun]
          clear hrun own7 own' own u7 uX hb7 hbX hb2
          obtain ⟨L, hL⟩ : ∃ L, L = headB m.head ++ bd := ⟨_, rfl⟩
          have hLl : L.length = 64 + bd.length := by rw [hL, List.length_append, headB_len]
          rw [← hL] at own8
          have hfin : headB M.head ++ (bd ++ padOf M.head (64 + bd.length)) = L ++ List.replicate (padC m.head L.length) 0 := by rw [← List.append_assoc, hM.head, ← hL, padC_eq, hLl]
          have hpl : padC m.head L.length ≤ 7 := by unfold padC padN; split <;> omega
          refine den_loop (PdI w (w.heap.size + 1) W.heap.size m L (padC m.head L.length)) (padC m.head L.length) ?_ ?_
          · exact ⟨0, .slice p3 n3 c3, rfl, Nat.zero_le _, by simp [go_sem], by simp [go_sem], hu8, hb8, by simpa using own8, by have := u8.size; omega, hbig⟩
          clear own8 u8 hb8 hu8
          rintro j ρ W9 ⟨i, v9, rfl, hi, g4, g7, hu9, hb9, own9, hbase9, hbb⟩
          have hb9' := hb9
          unfold MsgAt at hb9'
          have hlen : (L ++ List.replicate i 0).length = L.length + i := by simp
          obtain ⟨p9, c9, rfl, hc9⟩ := own9.at.len
          rw [hlen] at g7 hc9 own9
          have hnx := ok.next
          have hrm : ((L.length : Int) + (i : Int)).tmod 8 = (((L.length + i) % 8 : Nat) : Int) := by rw [← Int.natCast_add]; rfl
          by_cases hlt : i < padC m.head L.length
          · have hnz : ¬ m.head.next = 0 := by intro h; unfold padC at hlt; rw [if_pos h] at hlt; omega
            have hpos : 0 < m.head.next := by omega
            have hmod : ¬ (L.length + i) % 8 = 0 := by unfold padC padN at hlt; rw [if_neg hnz] at hlt; omega
            have hmodI : ¬ (((L.length + i) % 8 : Nat) : Int) = 0 := by omega
            have hb1 : ∀ (w : World) (k : Value → World → Prop), K_buildSlice Tryz.prog 31 1 #[(0, .int .u8 0)] w k = k (.slice (some ⟨w.heap.size, 0, none⟩) 1 1) (w.alloc (.cells ([0].map u8V).toArray 5)) := fun w k => slByte.build1K (P := Tryz.prog) (w := w) (u8V 0) rfl (by decide) k
            have hne : (((L.length : Int) + (i : Int)).tmod 8 != 0) = true := by rw [hrm]; simp; omega
            simp [go_sem, g4, g7, hb9', hpos, hne, hb1]
            refine gen_append ?_
            intro Wa hWa
            have ua : Upd noB W9 Wa := by rw [hWa]; exact (Upd.refl _ _).alloc _
            have src : BytesAt Wa (.slice (some ⟨W9.heap.size, 0, none⟩) 1 1) [0] := by rw [hWa]; exact (fresh_bytes [0] W9 (by simp)).at
            clear hWa
            have own9a : OwnB Wa W.heap.size (.slice p9 (L.length + i) c9) (L ++ List.replicate i 0) := own_keep0 own9 ua
            obtain ⟨pz, nz, cz, Wz, hrunz, ownz, uz⟩ := OwnB.appendN own9a src 31 (by rw [hlen]; simp; omega) (by have := ua.size; omega)
            simp [K_append_ok _ _ _ _ hrunz, go_sem]
            refine ⟨padC m.head L.length - (i + 1), by omega, i + 1, .slice pz nz cz, rfl, by omega, by simp [go_sem, g4], by simp [go_sem], (hu9.trans ua).trans' uz (fun k hk hlt => by have := hu.size; omega), uz.get (ua.get hb9' (fun h => h)) (by omega), ?_, by have := ua.size; have := uz.size; omega, hbb⟩
            rw [List.replicate_succ', ← List.append_assoc]
            exact ownz
          · obtain rfl : i = padC m.head L.length := by omega
            by_cases hnz : m.head.next = 0
            · simp [go_sem, g4, g7, hb9', hnz]
              refine ⟨hu9, _, rfl, ?_⟩
              rw [hfin]
              exact own_base own9 hu.size
            · have hpos : 0 < m.head.next := by omega
              have hmod : (L.length + padC m.head L.length) % 8 = 0 := by unfold padC padN; rw [if_neg hnz]; omega
              have hne : (((L.length : Int) + (padC m.head L.length : Int)).tmod 8 != 0) = false := by rw [hrm, hmod]; rfl
              simp [go_sem, g4, g7, hb9', hpos, hne]
              refine ⟨hu9, _, rfl, ?_⟩
              rw [hfin]
              exact own_base own9 hu.size
  · rw [if_neg hmay] at hres
    subst hres
    simp [go_sem]
    rw [msgPut_no (fun h => hmay (by rw [← hM.head]; exact h.1))]
    exact ⟨hu2, rfl⟩
end Go.Proofs.YtinfdomlpbikaaaGreatDoor
namespace Go.Proofs.YtinfdomlpbikaaaGreatDoor
open Go.Eng Go.Lib
set_option linter.unusedSimpArgs false
set_option linter.unusedVariables false
set_option maxRecDepth 100000
variable {w : World}
theorem utf8B_le (n : Nat) : (utf8B n).length ≤ 4 := by
  unfold utf8B
  repeat' split
  all_goals simp
theorem unitB_ge (n : Nat) : 1 ≤ (unitB n).length := by
  unfold unitB leB2
  split <;> simp
theorem flat_ge (ls : List Nat) : ls.length ≤ (ls.flatMap unitB).length := by
  induction ls with
  | nil => exact Nat.le_refl _
  | cons a l ih => rw [List.flatMap_cons, List.length_append, List.length_cons]; have := unitB_ge a; omega
theorem flat_le (ls : List Nat) : (ls.flatMap utf8B).length ≤ 4 * ls.length := by
  induction ls with
  | nil => exact Nat.le_refl _
  | cons a l ih => rw [List.flatMap_cons, List.length_append, List.length_cons]; have := utf8B_le a; omega
theorem cutL_le (l : List UInt8) (a n : Nat) : (cutL l a n).length ≤ n := by unfold cutL; simp; omega
theorem text_get {l r : List UInt8} {s : ByteArray} (h : textC.get l = .ok (s, r)) : s.size ≤ 1099511627776 := by
  have h' : (match textGet l 0 with
    | .error e => .error e
    | .ok (t, n) => .ok (strOf t, l.drop n) : Except Int (ByteArray × List UInt8)) = .ok (s, r) := h
  split at h'
  · cases h'
  · rename_i t n hg
    injection h' with h'
    injection h' with h1 h2
    subst h1
    rw [strOf_size]
    unfold textGet at hg
    split at hg
    · cases hg
    · rename_i row next hr
      split at hg
      · cases hg
      · rename_i t' ht
        injection hg with hg
        injection hg with h3 h4
        subst h3
        unfold rowGet at hr
        split at hr
        · cases hr
        · split at hr
          · cases hr
          · split at hr
            · cases hr
            · rename_i hm _
              injection hr with hr
              injection hr with h5 h6
              unfold txtG at ht
              cases hf : getF row with
              | none => rw [hf] at ht; cases ht
              | some ls =>
                rw [hf] at ht
                simp only [Option.map_some, Option.some.injEq] at ht
                subst ht
                have h7 := (units_get row.length row ls (Nat.le_refl _) hf).1
                have h8 := flat_ge ls
                have h9 := flat_le ls
                rw [h7] at h8
                have h10 : row.length ≤ 512 := by
                  rw [← h5]
                  exact Nat.le_trans (cutL_le _ _ _) (by omega)
                omega
structure AskOk (A : AskS) : Prop where
  ok : A.f.ok
  st : A.f.strs
  dia : ∀ x ∈ A.dia, 0 ≤ x ∧ x < 65536
  lok : ∀ x ∈ A.lok, LockV.ok x
structure SayOk (A : SayS) : Prop where
  ok : A.f.ok
  ent : ∀ x ∈ A.ent, EntV.ok x
theorem lock_get {l r : List UInt8} {x : Int × Int × Int × Unit} (h : lockC.get l = .ok (x, r)) : LockV.ok (lockOf x) := by
  obtain ⟨r1, h1, h2⟩ := seq_get h
  obtain ⟨r2, h3, h4⟩ := seq_get h2
  obtain ⟨r3, h5, h6⟩ := seq_get h4
  exact ⟨num_get h1, num_get h3, num_get h5⟩
theorem ent_get {l r : List UInt8} {x : Int × Unit × Int × ByteArray} (h : entC.get l = .ok (x, r)) : EntV.ok (entOf x) := by
  obtain ⟨r1, h1, h2⟩ := seq_get h
  obtain ⟨r2, h3, h4⟩ := seq_get h2
  obtain ⟨r3, h5, h6⟩ := seq_get h4
  have := most_get h1
  exact ⟨⟨this.1, by show x.1 < 256; omega⟩, text_get h6⟩
theorem zk1 : (0 : Int) ≤ 0 ∧ (0 : Int) < 256 := by decide
theorem zk2 : (0 : Int) ≤ 0 ∧ (0 : Int) < 65536 := by decide
theorem zk4 : (0 : Int) ≤ 0 ∧ (0 : Int) < 4294967296 := by decide
theorem zk8 : (0 : Int) ≤ 0 ∧ (0 : Int) < 18446744073709551616 := by decide
theorem empty_le : ByteArray.empty.size ≤ 1099511627776 := by decide
theorem ok_askF0 : ∀ l x r, askF0.C.get l = .ok (x, r) → AskOk (askF0.mkS x) := by
  intro l x r h
  obtain ⟨r0, g0, k0⟩ := seq_get h
  obtain ⟨r1, g1, k1⟩ := seq_get k0
  exact ⟨⟨zk4, zk4, zk4, zk4, zk1, zk1, zk8, zk8, zk4, zk2, zk2, zk8⟩, ⟨empty_le, empty_le, empty_le, empty_le, empty_le⟩, (list_get (fun x => 0 ≤ x ∧ x < 65536) (fun _ _ _ h => num_get h) g1).2, (fun x h => by cases h)⟩
theorem ok_askF1 : ∀ l x r, askF1.C.get l = .ok (x, r) → AskOk (askF1.mkS x) := by
  intro l x r h
  obtain ⟨r0, g0, k0⟩ := seq_get h
  exact ⟨⟨zk4, zk4, zk4, zk4, zk1, zk1, zk8, zk8, zk4, zk2, zk2, zk8⟩, ⟨text_get k0, empty_le, empty_le, empty_le, empty_le⟩, (fun x h => by cases h), (fun x h => by cases h)⟩
theorem ok_askF3 : ∀ l x r, askF3.C.get l = .ok (x, r) → AskOk (askF3.mkS x) := by
  intro l x r h
  exact ⟨⟨zk4, zk4, zk4, zk4, zk1, zk1, zk8, zk8, zk4, zk2, zk2, zk8⟩, ⟨empty_le, text_get h, empty_le, empty_le, empty_le⟩, (fun x h => by cases h), (fun x h => by cases h)⟩
theorem ok_askFz : ∀ l x r, askFz.C.get l = .ok (x, r) → AskOk (askFz.mkS x) := by
  intro l x r h
  exact ⟨⟨zk4, zk4, zk4, zk4, zk1, zk1, zk8, zk8, zk4, zk2, zk2, zk8⟩, ⟨empty_le, empty_le, empty_le, empty_le, empty_le⟩, (fun x h => by cases h), (fun x h => by cases h)⟩
theorem ok_askF5 : ∀ l x r, askF5.C.get l = .ok (x, r) → AskOk (askF5.mkS x) := by
  intro l x r h
  obtain ⟨r0, g0, k0⟩ := seq_get h
  obtain ⟨r1, g1, k1⟩ := seq_get k0
  obtain ⟨r2, g2, k2⟩ := seq_get k1
  obtain ⟨r3, g3, k3⟩ := seq_get k2
  obtain ⟨r4, g4, k4⟩ := seq_get k3
  obtain ⟨r5, g5, k5⟩ := seq_get k4
  obtain ⟨r6, g6, k6⟩ := seq_get k5
  obtain ⟨r7, g7, k7⟩ := seq_get k6
  exact ⟨⟨num_get g0, num_get g1, num_get g2, num_get g3, num_get g4, num_get g5, num_get g7, zk8, zk4, zk2, zk2, zk8⟩, ⟨empty_le, empty_le, text_get k7, empty_le, empty_le⟩, (fun x h => by cases h), (fun x h => by cases h)⟩
theorem ok_askFf : ∀ l x r, askFf.C.get l = .ok (x, r) → AskOk (askFf.mkS x) := by
  intro l x r h
  exact ⟨⟨zk4, zk4, zk4, zk4, zk1, zk1, num_get h, zk8, zk4, zk2, zk2, zk8⟩, ⟨empty_le, empty_le, empty_le, empty_le, empty_le⟩, (fun x h => by cases h), (fun x h => by cases h)⟩
theorem ok_askF8 : ∀ l x r, askF8.C.get l = .ok (x, r) → AskOk (askF8.mkS x) := by
  intro l x r h
  obtain ⟨r0, g0, k0⟩ := seq_get h
  obtain ⟨r1, g1, k1⟩ := seq_get k0
  exact ⟨⟨zk4, zk4, zk4, zk4, zk1, zk1, num_get g0, num_get g1, num_get k1, zk2, zk2, zk8⟩, ⟨empty_le, empty_le, empty_le, empty_le, empty_le⟩, (fun x h => by cases h), (fun x h => by cases h)⟩
theorem ok_askF9 : ∀ l x r, askF9.C.get l = .ok (x, r) → AskOk (askF9.mkS x) := by
  intro l x r h
  obtain ⟨r0, g0, k0⟩ := seq_get h
  obtain ⟨r1, g1, k1⟩ := seq_get k0
  exact ⟨⟨zk4, zk4, zk4, zk4, zk1, zk1, num_get g0, num_get g1, zk4, zk2, zk2, zk8⟩, ⟨empty_le, empty_le, empty_le, empty_le, empty_le⟩, (fun x h => by cases h), (fun x h => by cases h)⟩
theorem ok_askF10 : ∀ l x r, askF10.C.get l = .ok (x, r) → AskOk (askF10.mkS x) := by
  intro l x r h
  obtain ⟨r0, g0, k0⟩ := seq_get h
  obtain ⟨r1, g1, k1⟩ := seq_get k0
  obtain ⟨r2, g2, k2⟩ := seq_get k1
  exact ⟨⟨zk4, zk4, zk4, zk4, zk1, zk1, num_get g0, zk8, zk4, zk2, zk2, zk8⟩, ⟨empty_le, empty_le, empty_le, empty_le, empty_le⟩, (fun x h => by cases h), (fun y hy => by
    obtain ⟨z, hz, rfl⟩ := List.mem_map.1 hy
    exact (list_get (fun x => LockV.ok (lockOf x)) (fun _ _ _ h => lock_get h) k2).2 z hz)⟩
theorem ok_askF14 : ∀ l x r, askF14.C.get l = .ok (x, r) → AskOk (askF14.mkS x) := by
  intro l x r h
  obtain ⟨r0, g0, k0⟩ := seq_get h
  obtain ⟨r1, g1, k1⟩ := seq_get k0
  obtain ⟨r2, g2, k2⟩ := seq_get k1
  obtain ⟨r3, g3, k3⟩ := seq_get k2
  exact ⟨⟨zk4, zk4, zk4, zk4, zk1, zk1, num_get g0, zk8, zk4, num_get g1, zk2, zk8⟩, ⟨empty_le, empty_le, empty_le, text_get g3, text_get k3⟩, (fun x h => by cases h), (fun x h => by cases h)⟩
theorem ok_askF18 : ∀ l x r, askF18.C.get l = .ok (x, r) → AskOk (askF18.mkS x) := by
  intro l x r h
  obtain ⟨r0, g0, k0⟩ := seq_get h
  obtain ⟨r1, g1, k1⟩ := seq_get k0
  obtain ⟨r2, g2, k2⟩ := seq_get k1
  exact ⟨⟨zk4, zk4, zk4, zk4, num_get g1, zk1, num_get g0, zk8, zk4, zk2, zk2, zk8⟩, ⟨empty_le, empty_le, empty_le, empty_le, empty_le⟩, (fun x h => by cases h), (fun x h => by cases h)⟩
theorem sub_get {α β : Type} {C : Codec α} {f : α → β} {g : β → α} {p : β → Bool} {hf : ∀ b, p b = true → f (g b) = b} {hg : ∀ l a r, C.get l = .ok (a, r) → p (f a) = true ∧ g (f a) = a} {l r : List UInt8} {x : β} (h : (subC C f g p hf hg).get l = .ok (x, r)) : ∃ a, C.get l = .ok (a, r) ∧ x = f a := by
  simp only [subC] at h
  split at h
  · cases h
  · rename_i a r' he
    injection h with h
    injection h with h1 h2
    subst h1
    subst h2
    exact ⟨_, he, rfl⟩
theorem cls_get {c : Int} {l r : List UInt8} {x : Int × Bool × ByteArray} (h : (clsC c).get l = .ok (x, r)) : (0 ≤ x.1 ∧ x.1 < 18446744073709551616) ∧ x.2.2.size ≤ 1099511627776 := by
  unfold clsC at h
  split at h
  · obtain ⟨a, h1, rfl⟩ := sub_get h
    exact ⟨num_get h1, empty_le⟩
  · split at h
    · obtain ⟨a, h1, rfl⟩ := sub_get h
      exact ⟨zk8, empty_le⟩
    · obtain ⟨a, h1, rfl⟩ := sub_get h
      obtain ⟨r1, g1, g2⟩ := seq_get h1
      exact ⟨zk8, text_get g2⟩
theorem ok_askF17 : ∀ l x r, askF17.C.get l = .ok (x, r) → AskOk (askF17.mkS x) := by
  intro l x r h
  obtain ⟨r0, g0, k0⟩ := seq_get h
  obtain ⟨r1, g1, k1⟩ := seq_get k0
  exact ⟨⟨zk4, zk4, zk4, zk4, zk1, zk1, num_get g0, zk8, zk4, zk2, num_get (chk_get g1).1, (cls_get k1).1⟩, ⟨empty_le, empty_le, (cls_get k1).2, empty_le, empty_le⟩, (fun x h => by cases h), (fun x h => by cases h)⟩
theorem ok_sayF0 : ∀ l x r, sayF0.C.get l = .ok (x, r) → SayOk (sayF0.mkS x) := by
  intro l x r h
  obtain ⟨r0, g0, k0⟩ := seq_get h
  obtain ⟨r1, g1, k1⟩ := seq_get k0
  obtain ⟨r2, g2, k2⟩ := seq_get k1
  exact ⟨⟨num_get g0, (by have := num_get g2; exact ⟨this.1, by show x.2.2.1 < _; omega⟩), zk1, zk1, zk2, zk8, zk1, zk4⟩, (fun x h => by cases h)⟩
theorem ok_sayFz : ∀ l x r, sayFz.C.get l = .ok (x, r) → SayOk (sayFz.mkS x) := by
  intro l x r h
  exact ⟨⟨zk2, zk8, zk1, zk1, zk2, zk8, zk1, zk4⟩, (fun x h => by cases h)⟩
theorem ok_sayF5 : ∀ l x r, sayF5.C.get l = .ok (x, r) → SayOk (sayF5.mkS x) := by
  intro l x r h
  obtain ⟨r0, g0, k0⟩ := seq_get h
  obtain ⟨r1, g1, k1⟩ := seq_get k0
  obtain ⟨r2, g2, k2⟩ := seq_get k1
  obtain ⟨r3, g3, k3⟩ := seq_get k2
  obtain ⟨r4, g4, k4⟩ := seq_get k3
  obtain ⟨r5, g5, k5⟩ := seq_get k4
  exact ⟨⟨zk2, num_get g4, num_get g0, num_get g1, ⟨(most_get g2).1, (most_get g2).2.2⟩, num_get g3, ⟨(most_get g5).1, by have := (most_get g5).2.1; show x.2.2.2.2.2.1 < 256; omega⟩, zk4⟩, (fun x h => by cases h)⟩
theorem ok_sayF8 : ∀ l x r, sayF8.C.get l = .ok (x, r) → SayOk (sayF8.mkS x) := by
  intro l x r h
  exact ⟨⟨zk2, zk8, zk1, zk1, zk2, zk8, zk1, zk4⟩, (fun x h => by cases h)⟩
theorem ok_sayF9 : ∀ l x r, sayF9.C.get l = .ok (x, r) → SayOk (sayF9.mkS x) := by
  intro l x r h
  exact ⟨⟨zk2, zk8, zk1, zk1, zk2, zk8, zk1, num_get h⟩, (fun x h => by cases h)⟩
theorem ok_sayF14 : ∀ l x r, sayF14.C.get l = .ok (x, r) → SayOk (sayF14.mkS x) := by
  intro l x r h
  obtain ⟨r0, g0, k0⟩ := seq_get h
  obtain ⟨r1, g1, k1⟩ := seq_get k0
  exact ⟨⟨zk2, zk8, zk1, zk1, zk2, zk8, zk1, zk4⟩, (fun y hy => by
    obtain ⟨z, hz, rfl⟩ := List.mem_map.1 hy
    exact (list_get (fun x => EntV.ok (entOf x)) (fun _ _ _ h => ent_get h) k1).2 z hz)⟩
theorem ok_sayF16 : ∀ l x r, sayF16.C.get l = .ok (x, r) → SayOk (sayF16.mkS x) := by
  intro l x r h
  obtain ⟨r0, g0, k0⟩ := seq_get h
  obtain ⟨r1, g1, k1⟩ := seq_get k0
  exact ⟨⟨zk2, num_get g0, zk1, zk1, zk2, zk8, ⟨(most_get g1).1, by have := (most_get g1).2.1; show x.2.1 < 256; omega⟩, zk4⟩, (fun x h => by cases h)⟩
theorem ok_sayF18 : ∀ l x r, sayF18.C.get l = .ok (x, r) → SayOk (sayF18.mkS x) := by
  intro l x r h
  obtain ⟨r0, g0, k0⟩ := seq_get h
  obtain ⟨r1, g1, k1⟩ := seq_get k0
  obtain ⟨r2, g2, k2⟩ := seq_get k1
  exact ⟨⟨zk2, zk8, num_get g1, zk1, zk2, num_get g0, zk1, zk4⟩, (fun x h => by cases h)⟩
theorem Fmt.get_ok {S : Type} (F : Fmt S) {q : S → Prop} (h : ∀ l x r, F.C.get l = .ok (x, r) → q (F.mkS x)) {l : List UInt8} {s : S} (hg : F.get l = .ok s) : q s := by
  unfold Fmt.get at hg
  split at hg
  · cases hg
  · rename_i x he; injection hg with hg; subst hg; exact h _ _ _ he
  · cases hg
theorem askF_ok {c : Int} {F : Fmt AskS} (hF : askF c = some F) {l : List UInt8} {s : AskS} (hg : F.get l = .ok s) : AskOk s := by
  unfold askF at hF
  by_cases hc : c = 0
  · rw [if_pos hc] at hF
    obtain rfl := Option.some.inj hF
    exact askF0.get_ok ok_askF0 hg
  · rw [if_neg hc] at hF
    clear hc
    by_cases hc : c = 1
    · rw [if_pos hc] at hF
      obtain rfl := Option.some.inj hF
      exact askF1.get_ok ok_askF1 hg
    · rw [if_neg hc] at hF
      clear hc
      by_cases hc : c = 3
      · rw [if_pos hc] at hF
        obtain rfl := Option.some.inj hF
        exact askF3.get_ok ok_askF3 hg
      · rw [if_neg hc] at hF
        clear hc
        by_cases hc : c = 2 ∨ c = 4 ∨ c = 12 ∨ c = 13
        · rw [if_pos hc] at hF
          obtain rfl := Option.some.inj hF
          exact askFz.get_ok ok_askFz hg
        · rw [if_neg hc] at hF
          clear hc
          by_cases hc : c = 5
          · rw [if_pos hc] at hF
            obtain rfl := Option.some.inj hF
            exact askF5.get_ok ok_askF5 hg
          · rw [if_neg hc] at hF
            clear hc
            by_cases hc : c = 6 ∨ c = 7 ∨ c = 16
            · rw [if_pos hc] at hF
              obtain rfl := Option.some.inj hF
              exact askFf.get_ok ok_askFf hg
            · rw [if_neg hc] at hF
              clear hc
              by_cases hc : c = 8
              · rw [if_pos hc] at hF
                obtain rfl := Option.some.inj hF
                exact askF8.get_ok ok_askF8 hg
              · rw [if_neg hc] at hF
                clear hc
                by_cases hc : c = 9
                · rw [if_pos hc] at hF
                  obtain rfl := Option.some.inj hF
                  exact askF9.get_ok ok_askF9 hg
                · rw [if_neg hc] at hF
                  clear hc
                  by_cases hc : c = 10
                  · rw [if_pos hc] at hF
                    obtain rfl := Option.some.inj hF
                    exact askF10.get_ok ok_askF10 hg
                  · rw [if_neg hc] at hF
                    clear hc
                    by_cases hc : c = 14
                    · rw [if_pos hc] at hF
                      obtain rfl := Option.some.inj hF
                      exact askF14.get_ok ok_askF14 hg
                    · rw [if_neg hc] at hF
                      clear hc
                      by_cases hc : c = 17
                      · rw [if_pos hc] at hF
                        obtain rfl := Option.some.inj hF
                        exact askF17.get_ok ok_askF17 hg
                      · rw [if_neg hc] at hF
                        clear hc
                        by_cases hc : c = 18
                        · rw [if_pos hc] at hF
                          obtain rfl := Option.some.inj hF
                          exact askF18.get_ok ok_askF18 hg
                        · rw [if_neg hc] at hF
                          clear hc
                          cases hF
theorem sayF_ok {c : Int} {F : Fmt SayS} (hF : sayF c = some F) {l : List UInt8} {s : SayS} (hg : F.get l = .ok s) : SayOk s := by
  unfold sayF at hF
  by_cases hc : c = 0
  · rw [if_pos hc] at hF
    obtain rfl := Option.some.inj hF
    exact sayF0.get_ok ok_sayF0 hg
  · rw [if_neg hc] at hF
    clear hc
    by_cases hc : c = 1 ∨ c = 2 ∨ c = 3 ∨ c = 4 ∨ c = 13 ∨ c = 6 ∨ c = 7 ∨ c = 10 ∨ c = 17
    · rw [if_pos hc] at hF
      obtain rfl := Option.some.inj hF
      exact sayFz.get_ok ok_sayFz hg
    · rw [if_neg hc] at hF
      clear hc
      by_cases hc : c = 5
      · rw [if_pos hc] at hF
        obtain rfl := Option.some.inj hF
        exact sayF5.get_ok ok_sayF5 hg
      · rw [if_neg hc] at hF
        clear hc
        by_cases hc : c = 8
        · rw [if_pos hc] at hF
          obtain rfl := Option.some.inj hF
          exact sayF8.get_ok ok_sayF8 hg
        · rw [if_neg hc] at hF
          clear hc
          by_cases hc : c = 9
          · rw [if_pos hc] at hF
            obtain rfl := Option.some.inj hF
            exact sayF9.get_ok ok_sayF9 hg
          · rw [if_neg hc] at hF
            clear hc
            by_cases hc : c = 14
            · rw [if_pos hc] at hF
              obtain rfl := Option.some.inj hF
              exact sayF14.get_ok ok_sayF14 hg
            · rw [if_neg hc] at hF
              clear hc
              by_cases hc : c = 16
              · rw [if_pos hc] at hF
                obtain rfl := Option.some.inj hF
                exact sayF16.get_ok ok_sayF16 hg
              · rw [if_neg hc] at hF
                clear hc
                by_cases hc : c = 18
                · rw [if_pos hc] at hF
                  obtain rfl := Option.some.inj hF
                  exact sayF18.get_ok ok_sayF18 hg
                · rw [if_neg hc] at hF
                  clear hc
                  cases hF
theorem zeroAS_ok : AskOk zeroAS := ⟨⟨zk4, zk4, zk4, zk4, zk1, zk1, zk8, zk8, zk4, zk2, zk2, zk8⟩, ⟨empty_le, empty_le, empty_le, empty_le, empty_le⟩, (fun x h => by cases h), (fun x h => by cases h)⟩
theorem zeroSS_ok : SayOk zeroSS := ⟨⟨zk2, zk8, zk1, zk1, zk2, zk8, zk1, zk4⟩, fun x h => by cases h⟩
theorem bodyGet_ok {h : HeadV} {l : List UInt8} {M : MsgS} (hg : bodyGet h l = .ok M) : AskOk M.ask ∧ SayOk M.say := by
  by_cases h1 : hasF h.flags 1
  · by_cases h2 : h.status = 0
    · unfold bodyGet at hg
      rw [if_pos h1, if_neg (by simpa using h2)] at hg
      cases hF : sayF h.command with
      | none => rw [hF] at hg; cases hg
      | some F =>
        rw [hF] at hg
        simp only at hg
        cases hs : F.get l with
        | error e => rw [hs] at hg; cases hg
        | ok s => rw [hs] at hg; injection hg with hg; subst hg; exact ⟨zeroAS_ok, sayF_ok hF hs⟩
    · unfold bodyGet at hg
      rw [if_pos h1, if_pos h2] at hg
      split at hg
      · cases hg
      · split at hg
        · injection hg with hg; subst hg; exact ⟨zeroAS_ok, zeroSS_ok⟩
        · cases hg
  · unfold bodyGet at hg
    rw [if_neg h1] at hg
    cases hF : askF h.command with
    | none => rw [hF] at hg; cases hg
    | some F =>
      rw [hF] at hg
      simp only at hg
      cases hs : F.get l with
      | error e => rw [hs] at hg; cases hg
      | ok s => rw [hs] at hg; injection hg with hg; subst hg; exact ⟨askF_ok hF hs, zeroSS_ok⟩
theorem findN_ok {h : HeadV} {b : List UInt8} : ∀ (f n : Nat) {M : MsgS}, findN h b f n = some M → AskOk M.ask ∧ SayOk M.say
  | 0, n, M, hf => by cases hf
  | f + 1, n, M, hf => by
    unfold findN at hf
    split at hf
    · split at hf
      · rename_i m hb; injection hf with hf; subst hf; exact bodyGet_ok hb
      · exact findN_ok f (n + 1) hf
    · exact findN_ok f (n + 1) hf
theorem msgGet_ok {l : List UInt8} {M : MsgS} (hg : msgGet l = .ok M) : AskOk M.ask ∧ SayOk M.say := by
  unfold msgGet at hg
  split at hg
  · cases hg
  · rename_i hd hh
    by_cases hn : hd.next = 0
    · rw [if_pos hn] at hg; exact bodyGet_ok hg
    · rw [if_neg hn] at hg
      split at hg
      · cases hb : bodyGet hd (l.drop 64) with
        | error e => rw [hb] at hg; cases hg
        | ok m => rw [hb] at hg; cases hg
      · cases hf : findN hd (l.drop 64) 8 0 with
        | some m => rw [hf] at hg; injection hg with hg; subst hg; exact findN_ok _ _ hf
        | none =>
          rw [hf] at hg
          cases hb : bodyGet hd (l.drop 64) with
          | error e => rw [hb] at hg; cases hg
          | ok m => rw [hb] at hg; cases hg
end Go.Proofs.YtinfdomlpbikaaaGreatDoor
namespace Go.Proofs.YtinfdomlpbikaaaGreatDoor
open Go.Eng Go.Lib
set_option linter.unusedSimpArgs false
set_option linter.unusedVariables false
set_option maxRecDepth 100000
variable {w w0 : World}
theorem AskOk.good {a : AskV} {A : AskS} (h : AskOk A) (hf : A.f = a.bare) : AskG a A := by
  have h1 := h.ok
  have h2 := h.st
  rw [hf] at h1 h2
  exact ⟨⟨h1.1, h1.2, h1.3, h1.4, h1.5, h1.6, h1.7, h1.8, h1.9, h1.10, h1.11, h1.12⟩, ⟨h2.1, h2.2, h2.3, h2.4, h2.5⟩, h.dia, h.lok⟩
theorem SayOk.good {a : SayV} {A : SayS} (h : SayOk A) (hf : A.f = a.bare) : SayG a A := by
  have h1 := h.ok
  rw [hf] at h1
  exact ⟨⟨h1.1, h1.2, h1.3, h1.4, h1.5, h1.6, h1.7, h1.8⟩, h.ent⟩
set_option maxHeartbeats 4000000 in
theorem msgOnce_any {s : Value} {l : List UInt8} (hb : BytesAt w s l) (hl : l.length ≤ 1099511627776) (hT : Tabs w) :
    CallP Tryz.prog 7 #[s] w (fun r w' => r = .bool true ∧ Upd noB w w') := by
  refine call_den (args := [_]) Tryz.func7 rfl rfl (by simp [Tryz.ntmps7]) ?_
  simp [go_sem]
  refine CallP.mono (msgGetP_any hb hl) ?_
  rintro r W ⟨hu, hr⟩
  cases hx : msgGet l with
  | error e =>
    rw [hx] at hr
    simp only [MsgR] at hr
    subst hr
    have hz : e ≠ 0 := fun h => msg_nz l (by rw [hx, h])
    simp [go_sem, hz]
    refine gen_call ?_
    intro W3 hW
    have u3 : Upd noB W W3 := by rw [hW]; exact ((Upd.refl _ _).alloc _).setB _ _ (fun h => absurd h (by omega))
    have hu3 := hu.trans u3
    clear hW
    generalize W.heap.size = b1 at *
    refine CallP.mono (same_any (zeroM_at _) (zeroM_at _)) ?_
    rintro r W4 ⟨x, rfl, hx, u4⟩
    obtain rfl := hx.2 rfl
    simp [go_sem]
    refine CallP.mono (lives_any _) ?_
    rintro r W8 ⟨rfl, u8⟩
    simp [go_sem]
    exact (hu3.trans u4).trans u8
  | ok M =>
    rw [hx] at hr
    obtain ⟨m, rfl, hown⟩ := hr
    have hM := hown.at (msg_small hx).1 (msg_small hx).2
    obtain ⟨hpo, hok⟩ := msg_once hx
    obtain ⟨goa, gos⟩ := msgGet_ok hx
    have ga := goa.good hM.ask.f
    have gs := gos.good hM.say.f
    rw [hM.head] at hok
    simp [go_sem]
    refine gen_call ?_
    intro W3 hW
    have u3 : Upd noB W W3 := by rw [hW]; exact ((Upd.refl _ _).alloc _).setB _ _ (fun h => absurd h (by omega))
    have hM3 := hM.keep u3
    have hu3 := hu.trans u3
    clear hW
    generalize W.heap.size = b1 at *
    refine CallP.mono (put_any hM3 hok ga gs (hT.keep0 hu3)) ?_
    rintro r W4 ⟨u4, hr⟩
    rw [hpo] at hr
    simp only [PutR] at hr
    obtain ⟨v, rfl, own⟩ := hr
    have hu4 := hu3.trans u4
    simp [go_sem]
    refine CallP.mono (sameB_any own.at.1 (hb.keep0 hu4).1 (by omega)) ?_
    rintro r W5 ⟨x, rfl, hx, u5⟩
    obtain rfl := hx.2 rfl
    simp [go_sem]
    refine CallP.mono (lives_any _) ?_
    rintro r W8 ⟨rfl, u8⟩
    simp [go_sem]
    exact (hu4.trans u5).trans u8
end Go.Proofs.YtinfdomlpbikaaaGreatDoor
namespace Go.Proofs.YtinfdomlpbikaaaGreatDoor
open Go Go.Eng Go.Lib
set_option linter.unusedSimpArgs false
set_option linter.unusedVariables false
set_option maxRecDepth 100000
theorem u8Extra : U8Extra Tryz.prog Tryz.validL_ren := ⟨by kernel_rfl, by kernel_rfl, by kernel_rfl, by kernel_rfl, by kernel_rfl, by kernel_rfl, by kernel_rfl⟩
theorem laid_eq : ([("unicode/utf8.acceptRanges", Rows.laid_unicode_utf8_acceptRanges), ("unicode/utf8.first", Rows.laid_unicode_utf8_first)] : List (String × DataW Unit)) = [("unicode/utf8.acceptRanges", acceptData), ("unicode/utf8.first", firstData)] := by
  have e1 : (Rows.laid_unicode_utf8_acceptRanges : DataW Unit) = acceptData := by kernel_rfl
  have e2 : Rows.laid_unicode_utf8_first = firstData := Pinned.utf8First_eq
  rw [e1, e2]
theorem tabs_of_laid {w : World} (h : laidMet Tryz.prog [("unicode/utf8.acceptRanges", Rows.laid_unicode_utf8_acceptRanges), ("unicode/utf8.first", Rows.laid_unicode_utf8_first)] w) : Tabs w := by
  rw [laid_eq] at h
  obtain ⟨ps, hl, _⟩ := h
  exact utf8Tabs_of_readsT (U8Types.of196 Tryz.validL) u8Extra (LaidVars_reads hl _ _ (by simp)) (LaidVars_reads hl _ _ (by simp))
end Go.Proofs.YtinfdomlpbikaaaGreatDoor
