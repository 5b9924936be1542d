/-
  Heads: read.
-/
import Derived.Test.YtinfdomlpbikaaaGreatDoorMsgS
namespace Go.Proofs.YtinfdomlpbikaaaGreatDoor
open Go.Eng
set_option linter.unusedSimpArgs false
set_option linter.unusedVariables false
set_option maxRecDepth 100000
variable {w w0 : World}
theorem copy_bytes {s : Value} {l : List UInt8} (hb : BytesAt w s l) (hpos : 0 < l.length) {g o dCap : Nat} {cur : Array Value} {t ty : TypeId} (hg : w.heap[g]? = some (.cells cur t (0, 0))) (hfit : o + l.length ≤ cur.size) :
    (Builtin.copy_ #[31, 31] ty #[.slice (some ⟨g, o, none⟩) l.length dCap, s]).run Tryz.prog w = .ok (goInt l.length) (w.setB g (.cells (cur.toList.take o ++ l.map u8V ++ cur.toList.drop (o + l.length)).toArray t (0, 0))) := by
  rcases hb.1.2 with ⟨p, cap, rfl, h0⟩ | ⟨b, off, cap, c, te, f, rfl, hbb, hle, htake⟩
  · omega
  · have hsz : (Tryz.prog.info? 5).map (·.size) = some 1 := by kernel_rfl
    have := run_copy_row (P := Tryz.prog) w 31 31 ty 5 g o l.length dCap ⟨b, off, none⟩ l.length cap cur t (l.map u8V) Tryz.underlying31 hsz hg (by simp [Nat.min_def])
      (by
        intro j v hv
        rw [cell?_add, hbb, cellIn_some]
        rw [← htake, List.getElem?_take] at hv
        split at hv
        · rw [List.getElem?_drop, Array.getElem?_toList] at hv; exact hv
        · cases hv)
      (by simpa using hfit) (u8_one l)
    rw [this, setRow_setB w g _ hg]
    simp
theorem K_copy_bytes {s : Value} {l : List UInt8} (hb : BytesAt w s l) (hpos : 0 < l.length) {g o n dCap : Nat} {cur : Array Value} {t : TypeId} (hg : w.heap[g]? = some (.cells cur t (0, 0))) (hfit : o + l.length ≤ cur.size) (hn : n = l.length) (k : Value → World → Prop) (ty : TypeId) :
    K_copy Tryz.prog #[31, 31] ty #[.slice (some ⟨g, o, none⟩) n dCap, s] w k = k (goInt l.length) (w.setB g (.cells (cur.toList.take o ++ l.map u8V ++ cur.toList.drop (o + l.length)).toArray t (0, 0))) := by
  subst hn
  exact K_copy_ok _ _ _ _ (copy_bytes hb hpos hg hfit)
theorem head_copy (h : HeadV) (l : List UInt8) (hl : l.length = 16) : (h.cells.toList.take 10 ++ l.map u8V ++ h.cells.toList.drop (10 + l.length)).toArray = { h with sign := ⟨l, hl⟩ }.cells := by
  have e1 : h.row.take 10 = { h with sign := ⟨l, hl⟩ }.row.take 10 := rfl
  have e2 : { h with sign := ⟨l, hl⟩ }.row = { h with sign := ⟨l, hl⟩ }.row.take 10 ++ l.map u8V := rfl
  have e3 : h.row.length = 26 := by simp [HeadV.row, h.sign.2]
  simp only [HeadV.cells]
  rw [hl, e1, List.drop_eq_nil_of_le (by rw [e3]; decide), List.append_nil]
  exact congrArg List.toArray e2.symm
/-- the number of k bytes at a place -/
def numAt (l : List UInt8) (a k : Nat) : Nat := numB (cutL l a k)
theorem numAt_lt (l : List UInt8) (a k : Nat) : numAt l a k < 256 ^ k := by
  refine Nat.lt_of_lt_of_le (numB_lt _) (Nat.pow_le_pow_right (by decide) ?_)
  simp [cutL]; omega
@[go_sem] theorem num16 (l : List UInt8) (a : Nat) : IntKind.u16.wrap (numAt l a 2 : Int) = numAt l a 2 := wrap16 (by omega) (by have := numAt_lt l a 2; omega)
@[go_sem] theorem num32 (l : List UInt8) (a : Nat) : IntKind.u32.wrap (numAt l a 4 : Int) = numAt l a 4 := wrap32 (by omega) (by have := numAt_lt l a 4; omega)
theorem number_any {s : Value} {l : List UInt8} (hb : BytesAt w s l) (hl : l.length ≤ 9223372036854775807) {z : Int} (a k : Nat) (hz : z = (a : Int)) (h : a + k ≤ l.length) (hk : sizeOk k) :
    CallP Tryz.prog 72 #[s, .int .i64 z, .int .i64 k] w (fun r w' => r = .int .u64 (numAt l a k) ∧ w' = w) := by
  subst hz
  refine call_den (args := [_, _, _]) Tryz.func72 rfl rfl (by simp [Tryz.ntmps72]) ?_
  simp [go_sem]
  refine CallP.mono (refGet_any hb hl a k h hk) ?_
  rintro r w1 ⟨rfl, rfl⟩
  simp [go_sem]
  rfl
theorem getN_any {s : Value} {l : List UInt8} (hb : BytesAt w s l) (hl : l.length ≤ 9223372036854775807) {z : Int} (a o k bs ba : Nat) {t1 : TypeId} (hbs : w.heap[bs]? = some (.cells #[s] t1 (0, 0))) (hba : w.heap[ba]? = some (.cells #[.int .i64 (a : Int)] 3 (0, 0)))
    (hz : z = (o : Int)) (h : a + o + k ≤ l.length) (hk : sizeOk k) (hs1 : (isAgg 31).run Tryz.prog w = .ok false w) :
    CallP Tryz.prog 70 #[.int .i64 z, .int .i64 k, .pointer (some ⟨bs, 0, none⟩), .pointer (some ⟨ba, 0, none⟩)] w (fun r w' => r = .int .u64 (numAt l (a + o) k) ∧ w' = w) := by
  subst hz
  have hw : IntKind.i64.wrap ((a : Int) + o) = ((a + o : Nat) : Int) := by rw [wrap64_id (by omega) (by omega)]; omega
  refine call_den (args := [_, _, _, _]) Tryz.func70 rfl rfl (by simp [Tryz.ntmps70]) ?_
  simp [go_sem, hbs, hba]
  rw [hw]
  refine CallP.mono (endsGet_any hb hl (a + o) k h hk) ?_
  rintro r w1 ⟨rfl, rfl⟩
  simp [go_sem]
  rfl
/-- the head that stands at a place -/
def getH (l : List UInt8) (a : Nat) : HeadV :=
  { charge := numAt l (a + 6) 2, status := numAt l (a + 8) 4, command := numAt l (a + 12) 2, credits := numAt l (a + 14) 2, flags := numAt l (a + 16) 4, next := numAt l (a + 20) 4, id := numAt l (a + 24) 8,
    async := if hasF (numAt l (a + 16) 4) 2 then numAt l (a + 32) 8 else 0, tree := if hasF (numAt l (a + 16) 4) 2 then 0 else numAt l (a + 36) 4, session := numAt l (a + 40) 8,
    sign := if hs : (cutL l (a + 48) 16).length = 16 then ⟨cutL l (a + 48) 16, hs⟩ else ⟨List.replicate 16 0, rfl⟩ }
def badH (l : List UInt8) (a : Nat) : Bool :=
  decide (numAt l a 4 ≠ 1112364030) || (decide (numAt l (a + 4) 2 ≠ 64) || (!mayL (getH l a) || (decide (¬ hasF (numAt l (a + 16) 4) 2) && decide (numAt l (a + 32) 4 ≠ 0))))
theorem getH_ok (l : List UInt8) (a : Nat) : (getH l a).ok := by
  have h := numAt_lt l
  refine ⟨?_, ?_, ?_, ?_, ?_, ?_, ?_, ?_, ?_, ?_⟩ <;> simp only [getH]
  · have := h (a + 6) 2; omega
  · have := h (a + 8) 4; omega
  · have := h (a + 12) 2; omega
  · have := h (a + 14) 2; omega
  · have := h (a + 16) 4; omega
  · have := h (a + 20) 4; omega
  · have := h (a + 24) 8; omega
  · split
    · have := h (a + 32) 8; omega
    · omega
  · split
    · omega
    · have := h (a + 36) 4; omega
  · have := h (a + 40) 8; omega
def GetOut (l : List UInt8) (a : Nat) (r : Value) : Prop :=
  if l.length - a < 64 then r = .tuple #[.agg zeroH.cells, .int .i64 4]
  else if badH l a then r = .tuple #[.agg zeroH.cells, .int .i64 5] else r = .tuple #[.agg (getH l a).cells, .int .i64 0]
theorem head_set_sign (h : HeadV) (i : Nat) (hi : i < 16) (b : UInt8) : h.cells.setIfInBounds (10 + i) (.int .u8 (b.toNat : Int)) = { h with sign := ⟨h.sign.1.set i b, by rw [List.length_set]; exact h.sign.2⟩ }.cells := by
  have e : h.row = h.row.take 10 ++ h.sign.1.map u8V := rfl
  have e2 : { h with sign := ⟨h.sign.1.set i b, by rw [List.length_set]; exact h.sign.2⟩ }.row = h.row.take 10 ++ (h.sign.1.set i b).map u8V := rfl
  have e3 : (h.row.take 10).length = 10 := rfl
  apply Array.toList_inj.1
  simp only [HeadV.cells, Array.toList_setIfInBounds]
  rw [e2]
  conv => lhs; rw [e]
  rw [List.set_append_right _ _ (by rw [e3]; omega), e3, Nat.add_sub_cancel_left, List.map_set]
  rfl
theorem getH_sign (l : List UInt8) (a : Nat) (h : a + 64 ≤ l.length) : (getH l a).sign.1 = cutL l (a + 48) 16 := by
  have hs : (cutL l (a + 48) 16).length = 16 := cutL_len l (a + 48) 16 (by omega)
  simp only [getH]
  rw [dif_pos hs]
/-- the head, its first n fields read -/
def gH (l : List UInt8) (a n : Nat) : HeadV :=
  { charge := if 1 ≤ n then numAt l (a + 6) 2 else 0, status := if 2 ≤ n then numAt l (a + 8) 4 else 0, command := if 3 ≤ n then numAt l (a + 12) 2 else 0, credits := if 4 ≤ n then numAt l (a + 14) 2 else 0,
    flags := if 5 ≤ n then numAt l (a + 16) 4 else 0, next := if 6 ≤ n then numAt l (a + 20) 4 else 0, id := if 7 ≤ n then numAt l (a + 24) 8 else 0, async := 0, tree := 0, session := if 8 ≤ n then numAt l (a + 40) 8 else 0, sign := zeroH.sign }
def GA (l : List UInt8) (a : Nat) : HeadV := { gH l a 8 with async := numAt l (a + 32) 8 }
def GT (l : List UInt8) (a : Nat) : HeadV := { gH l a 8 with tree := numAt l (a + 36) 4 }
theorem magic_iff (l : List UInt8) (a : Nat) (h : a + 4 ≤ l.length) : numAt l a 4 = 1112364030 ↔ (l[a].toNat = 254 ∧ l[a + 1].toNat = 83 ∧ l[a + 2].toNat = 77 ∧ l[a + 3].toNat = 66) := by
  have e : cutL l a 4 = [l[a], l[a + 1], l[a + 2], l[a + 3]] := by
    apply List.ext_getElem
    · rw [cutL_len l a 4 h]; rfl
    · intro i h1 h2
      rw [cutL_len l a 4 h] at h1
      simp only [cutL, List.getElem_take, List.getElem_drop]
      match i, h1 with
      | 0, _ => rfl
      | 1, _ => rfl
      | 2, _ => rfl
      | 3, _ => rfl
  unfold numAt
  rw [e]
  have := l[a].toNat_lt; have := l[a + 1].toNat_lt; have := l[a + 2].toNat_lt; have := l[a + 3].toNat_lt
  simp only [numB]
  omega
def SgI (w : World) (p : Option Addr) (n cap a : Nat) (G : HeadV) (S : List UInt8) (m : Nat) (ρ : Env) (w' : World) : Prop :=
  ∃ (i : Nat) (X : Arr 16), m = 16 - i ∧ i ≤ 16 ∧ X.1 = S.take i ++ List.replicate (16 - i) 0 ∧ ρ 0 = .slice p n cap ∧ ρ 1 = .int .i64 a ∧ ρ 4 = .pointer (some ⟨w.heap.size, 0, none⟩) ∧ ρ 6 = .pointer (some ⟨w.heap.size + 1, 0, none⟩) ∧ ρ 7 = .int .i64 i ∧
    Upd noB w w' ∧ w'.heap[w.heap.size + 1]? = some (.cells { G with sign := X }.cells 28 (0, 0)) ∧ w'.heap[w.heap.size]? = some (.cells zeroH.cells 28 (0, 0))
set_option maxHeartbeats 4000000 in
theorem refHeadGet_any {s : Value} {l : List UInt8} (hb : BytesAt w s l) (hl : l.length ≤ 9223372036854775000) (a : Nat) (ha : a ≤ l.length) :
    CallP Tryz.prog 45 #[s, .int .i64 a] w (fun r w' => Upd noB w w' ∧ GetOut l a r) := by
  obtain ⟨p, cap, rfl, hcap⟩ := hb.len
  have hwn : ∀ k : Int, 0 ≤ k → k ≤ 64 → IntKind.i64.wrap ((a : Int) + k) = (a : Int) + k := fun k h0 hk => wrap64_id (by omega) (by omega)
  have hw1 : IntKind.i64.wrap ((l.length : Int) - a) = (l.length : Int) - a := wrap64_id (by omega) (by omega)
  have n1 : ¬ (a : Int) < 0 := by omega
  have n2 : ¬ l.length < a := by omega
  refine call_den (args := [_, _]) Tryz.func45 rfl rfl (by simp [Tryz.ntmps45]) ?_
  by_cases h64 : l.length - a < 64
  · have n3 : (l.length : Int) - a < 64 := by omega
    simp [go_sem, n1, n2, n3, hw1]
    refine ⟨(by repeat (first | exact Upd.refl _ _ | refine Upd.alloc ?_ _ | refine Upd.drew ?_ | refine Upd.drewN ?_ _ | refine Upd.setB ?_ _ _ (fun h => absurd h (by omega)))), ?_⟩
    unfold GetOut
    rw [if_pos h64]
  · have n3 : ¬ (l.length : Int) - a < 64 := by omega
    simp [go_sem, n1, n2, n3, hw1, hwn]
    refine gen_call ?_
    intro W hW
    have hu : Upd noB w W := by rw [hW]; exact (by repeat (first | exact Upd.refl _ _ | refine Upd.alloc ?_ _ | refine Upd.drew ?_ | refine Upd.drewN ?_ _ | refine Upd.setB ?_ _ _ (fun h => absurd h (by omega))))
    have hh : W.heap[w.heap.size + 1]? = some (.cells (gH l a 0).cells 28 (0, 0)) := by rw [hW, heap_alloc, if_pos (by simp)]; rfl
    have hz : W.heap[w.heap.size]? = some (.cells zeroH.cells 28 (0, 0)) := by rw [hW, heap_alloc, if_neg (by simp), heap_alloc, if_pos rfl]
    clear hW
    refine CallP.mono (number_any (hb.keep0 hu) (by omega) (a + 6) 2 (by omega) (by omega) (by decide)) ?_
    rintro r _ ⟨rfl, rfl⟩
    simp [go_sem, hwn, hh]
    refine gen_call ?_
    intro W2 hW2
    have hu2 : Upd noB w W2 := by rw [hW2]; exact hu.setB _ _ (fun h => absurd h (by omega))
    have hh2 : W2.heap[w.heap.size + 1]? = some (.cells (gH l a 1).cells 28 (0, 0)) := by rw [hW2, heap_setB, if_pos rfl, hh]; rfl
    have hz2 : W2.heap[w.heap.size]? = some (.cells zeroH.cells 28 (0, 0)) := by rw [hW2, heap_setB, if_neg (by omega)]; exact hz
    clear hW2 hu hh hz
    revert W2
    intro W hu hh hz
    refine CallP.mono (number_any (hb.keep0 hu) (by omega) (a + 8) 4 (by omega) (by omega) (by decide)) ?_
    rintro r _ ⟨rfl, rfl⟩
    simp [go_sem, hwn, hh]
    refine gen_call ?_
    intro W2 hW2
    have hu2 : Upd noB w W2 := by rw [hW2]; exact hu.setB _ _ (fun h => absurd h (by omega))
    have hh2 : W2.heap[w.heap.size + 1]? = some (.cells (gH l a 2).cells 28 (0, 0)) := by rw [hW2, heap_setB, if_pos rfl, hh]; rfl
    have hz2 : W2.heap[w.heap.size]? = some (.cells zeroH.cells 28 (0, 0)) := by rw [hW2, heap_setB, if_neg (by omega)]; exact hz
    clear hW2 hu hh hz
    revert W2
    intro W hu hh hz
    refine CallP.mono (number_any (hb.keep0 hu) (by omega) (a + 12) 2 (by omega) (by omega) (by decide)) ?_
    rintro r _ ⟨rfl, rfl⟩
    simp [go_sem, hwn, hh]
    refine gen_call ?_
    intro W2 hW2
    have hu2 : Upd noB w W2 := by rw [hW2]; exact hu.setB _ _ (fun h => absurd h (by omega))
    have hh2 : W2.heap[w.heap.size + 1]? = some (.cells (gH l a 3).cells 28 (0, 0)) := by rw [hW2, heap_setB, if_pos rfl, hh]; rfl
    have hz2 : W2.heap[w.heap.size]? = some (.cells zeroH.cells 28 (0, 0)) := by rw [hW2, heap_setB, if_neg (by omega)]; exact hz
    clear hW2 hu hh hz
    revert W2
    intro W hu hh hz
    refine CallP.mono (number_any (hb.keep0 hu) (by omega) (a + 14) 2 (by omega) (by omega) (by decide)) ?_
    rintro r _ ⟨rfl, rfl⟩
    simp [go_sem, hwn, hh]
    refine gen_call ?_
    intro W2 hW2
    have hu2 : Upd noB w W2 := by rw [hW2]; exact hu.setB _ _ (fun h => absurd h (by omega))
    have hh2 : W2.heap[w.heap.size + 1]? = some (.cells (gH l a 4).cells 28 (0, 0)) := by rw [hW2, heap_setB, if_pos rfl, hh]; rfl
    have hz2 : W2.heap[w.heap.size]? = some (.cells zeroH.cells 28 (0, 0)) := by rw [hW2, heap_setB, if_neg (by omega)]; exact hz
    clear hW2 hu hh hz
    revert W2
    intro W hu hh hz
    refine CallP.mono (number_any (hb.keep0 hu) (by omega) (a + 16) 4 (by omega) (by omega) (by decide)) ?_
    rintro r _ ⟨rfl, rfl⟩
    simp [go_sem, hwn, hh]
    refine gen_call ?_
    intro W2 hW2
    have hu2 : Upd noB w W2 := by rw [hW2]; exact hu.setB _ _ (fun h => absurd h (by omega))
    have hh2 : W2.heap[w.heap.size + 1]? = some (.cells (gH l a 5).cells 28 (0, 0)) := by rw [hW2, heap_setB, if_pos rfl, hh]; rfl
    have hz2 : W2.heap[w.heap.size]? = some (.cells zeroH.cells 28 (0, 0)) := by rw [hW2, heap_setB, if_neg (by omega)]; exact hz
    clear hW2 hu hh hz
    revert W2
    intro W hu hh hz
    refine CallP.mono (number_any (hb.keep0 hu) (by omega) (a + 20) 4 (by omega) (by omega) (by decide)) ?_
    rintro r _ ⟨rfl, rfl⟩
    simp [go_sem, hwn, hh]
    refine gen_call ?_
    intro W2 hW2
    have hu2 : Upd noB w W2 := by rw [hW2]; exact hu.setB _ _ (fun h => absurd h (by omega))
    have hh2 : W2.heap[w.heap.size + 1]? = some (.cells (gH l a 6).cells 28 (0, 0)) := by rw [hW2, heap_setB, if_pos rfl, hh]; rfl
    have hz2 : W2.heap[w.heap.size]? = some (.cells zeroH.cells 28 (0, 0)) := by rw [hW2, heap_setB, if_neg (by omega)]; exact hz
    clear hW2 hu hh hz
    revert W2
    intro W hu hh hz
    refine CallP.mono (number_any (hb.keep0 hu) (by omega) (a + 24) 8 (by omega) (by omega) (by decide)) ?_
    rintro r _ ⟨rfl, rfl⟩
    simp [go_sem, hwn, hh]
    refine gen_call ?_
    intro W2 hW2
    have hu2 : Upd noB w W2 := by rw [hW2]; exact hu.setB _ _ (fun h => absurd h (by omega))
    have hh2 : W2.heap[w.heap.size + 1]? = some (.cells (gH l a 7).cells 28 (0, 0)) := by rw [hW2, heap_setB, if_pos rfl, hh]; rfl
    have hz2 : W2.heap[w.heap.size]? = some (.cells zeroH.cells 28 (0, 0)) := by rw [hW2, heap_setB, if_neg (by omega)]; exact hz
    clear hW2 hu hh hz
    revert W2
    intro W hu hh hz
    refine CallP.mono (number_any (hb.keep0 hu) (by omega) (a + 40) 8 (by omega) (by omega) (by decide)) ?_
    rintro r _ ⟨rfl, rfl⟩
    simp [go_sem, hwn, hh]
    refine gen_call ?_
    intro W2 hW2
    have hu2 : Upd noB w W2 := by rw [hW2]; exact hu.setB _ _ (fun h => absurd h (by omega))
    have hh2 : W2.heap[w.heap.size + 1]? = some (.cells (gH l a 8).cells 28 (0, 0)) := by rw [hW2, heap_setB, if_pos rfl, hh]; rfl
    have hz2 : W2.heap[w.heap.size]? = some (.cells zeroH.cells 28 (0, 0)) := by rw [hW2, heap_setB, if_neg (by omega)]; exact hz
    clear hW2 hu hh hz
    revert W2
    intro W hu hh hz
    have hfl : 0 ≤ (gH l a 8).flags ∧ (gH l a 8).flags < 4294967296 := ⟨by show 0 ≤ (numAt l (a + 16) 4 : Int); omega, by show (numAt l (a + 16) 4 : Int) < 4294967296; have := numAt_lt l (a + 16) 4; omega⟩
    refine CallP.mono (has_any _ 2 (by decide) hfl _) ?_
    rintro r w3 ⟨rfl, u3⟩
    have hfe : (gH l a 8).flags = numAt l (a + 16) 4 := rfl
    rw [hfe]
    by_cases hf : hasF (numAt l (a + 16) 4) 2
    · simp [go_sem, hf, hwn]
      replace hu := hu.trans u3
      replace hh := u3.get hh (by simp [noB])
      replace hz := u3.get hz (by simp [noB])
      refine CallP.mono (number_any (hb.keep0 hu) (by omega) (a + 32) 8 (by omega) (by omega) (by decide)) ?_
      rintro r _ ⟨rfl, rfl⟩
      simp [go_sem, hwn, hh]
      refine gen_den ?_
      intro W2 hW2
      have hu2 : Upd noB w W2 := by rw [hW2]; exact hu.setB _ _ (fun h => absurd h (by omega))
      have hh2 : W2.heap[w.heap.size + 1]? = some (.cells { gH l a 8 with async := numAt l (a + 32) 8 }.cells 28 (0, 0)) := by rw [hW2, heap_setB, if_pos rfl, hh]; rfl
      have hz2 : W2.heap[w.heap.size]? = some (.cells zeroH.cells 28 (0, 0)) := by rw [hW2, heap_setB, if_neg (by omega)]; exact hz
      clear hW2 hu hh hz
      revert W2
      intro W hu hh hz
      have hlast : (¬ hasF (numAt l (a + 16) 4) 2) → numAt l (a + 32) 4 = 0 := fun h => absurd hf h
      have hS : (cutL l (a + 48) 16).length = 16 := cutL_len l (a + 48) 16 (by omega)
      refine den_loop (SgI w p l.length cap a (GA l a) (cutL l (a + 48) 16)) 16 ?_ ?_
      · exact ⟨0, zeroH.sign, rfl, by omega, rfl, by simp [go_sem], by simp [go_sem], by simp [go_sem], by simp [go_sem], by simp [go_sem], hu, hh, hz⟩
      · clear hu hh hz
        rintro m ρ W ⟨i, X, rfl, hi, hX, g0, g1, g4, g6, g7, hu, hh, hz⟩
        have hbW := hb.keep0 hu
        by_cases hlt : i < 16
        · have hlt' : (i : Int) < 16 := by omega
          have hwr : IntKind.i64.wrap ((i : Int) + 1) = ((i + 1 : Nat) : Int) := wrap64_id (by omega) (by omega)
          have hwa : IntKind.i64.wrap ((a : Int) + 48 + i) = (a : Int) + 48 + i := wrap64_id (by omega) (by omega)
          obtain ⟨q, hidx, _, hK⟩ := hbW.at (P := Tryz.prog) (t := 31) (e := 5) Tryz.underlying31 Tryz.sizeOf5 Tryz.isAgg5 (a + 48 + i) (by omega)
          obtain ⟨x, hx⟩ : ∃ x, x = l[a + 48 + i]'(by omega) := ⟨_, rfl⟩
          rw [← hx] at hK
          rw [show ((a + 48 + i : Nat) : Int) = (a : Int) + 48 + i by omega] at hidx
          have hsz : { (GA l a) with sign := X }.cells.size = 26 := HeadV.size _
          have hst := head_set_sign { (GA l a) with sign := X } i hlt x
          have hin : 10 + i < 26 := by omega
          simp [go_sem, g0, g1, g4, g6, g7, hlt', hlt, hwn, hwa, hidx, hK, hh, hin, hst]
          refine ⟨16 - (i + 1), by omega, i + 1, ⟨X.1.set i x, by rw [List.length_set]; exact X.2⟩, rfl, by omega, ?_, by simp [go_sem, g0], by simp [go_sem, g1], by simp [go_sem, g4], by simp [go_sem, g6], by simp [go_sem, hwr], hu.setB _ _ (fun h => absurd h (by omega)), ?_, ?_⟩
          · show X.1.set i x = _
            have e1 : 16 - i = (16 - (i + 1)) + 1 := by omega
            have e2 : (cutL l (a + 48) 16)[i]'(by omega) = x := by rw [hx]; simp [cutL]
            rw [hX, e1, List.replicate_succ, List.set_append_right _ _ (by simp; omega), List.take_succ_eq_append_getElem (by omega), e2]
            have e3 : i - (List.take i (cutL l (a + 48) 16)).length = 0 := by simp; omega
            rw [e3]
            simp
          · rw [heap_setB, if_pos rfl, hh]; rfl
          · rw [heap_setB, if_neg (by omega)]; exact hz
        · have hi' : i = 16 := by omega
          subst hi'
          have hXe : X = ⟨cutL l (a + 48) 16, hS⟩ := by
            apply Subtype.ext
            rw [hX, List.take_of_length_le (by omega)]; simp
          subst hXe
          have hfin : { (GA l a) with sign := ⟨cutL l (a + 48) 16, hS⟩ } = getH l a := by
            simp [GA, GT, gH, getH, hf, hS]
          simp [go_sem, g0, g1, g4, g6, g7]
          have hsz0 : zeroH.cells.size = 26 := HeadV.size _
          rw [hfin] at hh
          obtain ⟨q0, i0, _, k0⟩ := hbW.at (P := Tryz.prog) (t := 31) (e := 5) Tryz.underlying31 Tryz.sizeOf5 Tryz.isAgg5 (a + 0) (by omega)
          obtain ⟨c0, e0⟩ : ∃ c, c = (l[a + 0]'(by omega)).toNat := ⟨_, rfl⟩
          rw [← e0] at k0
          rw [show ((a + 0 : Nat) : Int) = (a : Int) + 0 by omega] at i0
          obtain ⟨q1, i1, _, k1⟩ := hbW.at (P := Tryz.prog) (t := 31) (e := 5) Tryz.underlying31 Tryz.sizeOf5 Tryz.isAgg5 (a + 1) (by omega)
          obtain ⟨c1, e1⟩ : ∃ c, c = (l[a + 1]'(by omega)).toNat := ⟨_, rfl⟩
          rw [← e1] at k1
          rw [show ((a + 1 : Nat) : Int) = (a : Int) + 1 by omega] at i1
          obtain ⟨q2, i2, _, k2⟩ := hbW.at (P := Tryz.prog) (t := 31) (e := 5) Tryz.underlying31 Tryz.sizeOf5 Tryz.isAgg5 (a + 2) (by omega)
          obtain ⟨c2, e2⟩ : ∃ c, c = (l[a + 2]'(by omega)).toNat := ⟨_, rfl⟩
          rw [← e2] at k2
          rw [show ((a + 2 : Nat) : Int) = (a : Int) + 2 by omega] at i2
          obtain ⟨q3, i3, _, k3⟩ := hbW.at (P := Tryz.prog) (t := 31) (e := 5) Tryz.underlying31 Tryz.sizeOf5 Tryz.isAgg5 (a + 3) (by omega)
          obtain ⟨c3, e3⟩ : ∃ c, c = (l[a + 3]'(by omega)).toNat := ⟨_, rfl⟩
          rw [← e3] at k3
          rw [show ((a + 3 : Nat) : Int) = (a : Int) + 3 by omega] at i3
          rw [show (a : Int) + 0 = (a : Int) by omega] at i0
          have hmag := magic_iff l a (by omega)
          have e0' : (l[a]'(by omega)).toNat = c0 := e0.symm
          rw [e0', ← e1, ← e2, ← e3] at hmag
          have hbadm : ¬ (c0 = 254 ∧ c1 = 83 ∧ c2 = 77 ∧ c3 = 66) → badH l a = true := by
            intro hn
            have : ¬ numAt l a 4 = 1112364030 := fun e => hn (hmag.1 e)
            simp [badH, this]
          by_cases m0 : c0 = 254
          · by_cases m1 : c1 = 83
            · by_cases m2 : c2 = 77
              · by_cases m3 : c3 = 66
                · skip
                  have hm4 : numAt l a 4 = 1112364030 := hmag.2 ⟨m0, m1, m2, m3⟩
                  simp [go_sem, g0, g1, g4, g6, g7, hwn, hh, hz, hsz0, i0, k0, i1, k1, i2, k2, i3, k3, m0, m1, m2, m3]
                  refine CallP.mono (number_any hbW (by omega) (a + 4) 2 (by omega) (by omega) (by decide)) ?_
                  rintro r _ ⟨rfl, rfl⟩
                  by_cases h4 : numAt l (a + 4) 2 = 64
                  · simp [go_sem, g0, g1, g4, g6, g7, hh, h4]
                    refine CallP.mono (refMay_any (getH l a) (getH_ok l a) _) ?_
                    rintro r w5 ⟨rfl, u5⟩
                    have hh5 := u5.get hh (by simp [noB])
                    have hz5 := u5.get hz (by simp [noB])
                    have hu5 := hu.trans u5
                    cases hmay : mayL (getH l a) with
                    | false =>
                      simp [go_sem, g0, g1, g4, g6, g7, hh5, hz5, hsz0]
                      refine ⟨hu5.setB _ _ (fun h => absurd h (by omega)), ?_⟩
                      unfold GetOut
                      rw [if_neg h64, if_pos (by simp [badH, hmay])]
                    | true =>
                      simp [go_sem, g0, g1, g4, g6, g7, hh5, hz5, hsz0]
                      refine ⟨hu5.setB _ _ (fun h => absurd h (by omega)), ?_⟩
                      unfold GetOut
                      rw [if_neg h64, if_neg (by simp [badH, hmay, hm4, h4]; exact hlast)]
                  · have h4' : ¬ (numAt l (a + 4) 2 : Int) = 64 := by omega
                    simp [go_sem, g0, g1, g4, g6, g7, hh, hz, hsz0, h4', h4]
                    refine ⟨hu.setB _ _ (fun h => absurd h (by omega)), ?_⟩
                    unfold GetOut
                    rw [if_neg h64, if_pos (by simp [badH, h4])]
                · have n3' : ¬ (c3 : Int) = 66 := by omega
                  simp [go_sem, g0, g1, g4, g6, g7, hwn, hh, hz, hsz0, i0, k0, i1, k1, i2, k2, i3, k3, m0, m1, m2, m3, n3']
                  refine ⟨hu.setB _ _ (fun h => absurd h (by omega)), ?_⟩
                  unfold GetOut
                  rw [if_neg h64, if_pos (hbadm (by rintro ⟨f0, f1, f2, f3⟩; omega))]
              · have n2' : ¬ (c2 : Int) = 77 := by omega
                simp [go_sem, g0, g1, g4, g6, g7, hwn, hh, hz, hsz0, i0, k0, i1, k1, i2, k2, i3, k3, m0, m1, m2, n2']
                refine ⟨hu.setB _ _ (fun h => absurd h (by omega)), ?_⟩
                unfold GetOut
                rw [if_neg h64, if_pos (hbadm (by rintro ⟨f0, f1, f2, f3⟩; omega))]
            · have n1' : ¬ (c1 : Int) = 83 := by omega
              simp [go_sem, g0, g1, g4, g6, g7, hwn, hh, hz, hsz0, i0, k0, i1, k1, i2, k2, i3, k3, m0, m1, n1']
              refine ⟨hu.setB _ _ (fun h => absurd h (by omega)), ?_⟩
              unfold GetOut
              rw [if_neg h64, if_pos (hbadm (by rintro ⟨f0, f1, f2, f3⟩; omega))]
          · have n0' : ¬ (c0 : Int) = 254 := by omega
            simp [go_sem, g0, g1, g4, g6, g7, hwn, hh, hz, hsz0, i0, k0, i1, k1, i2, k2, i3, k3, m0, n0']
            refine ⟨hu.setB _ _ (fun h => absurd h (by omega)), ?_⟩
            unfold GetOut
            rw [if_neg h64, if_pos (hbadm (by rintro ⟨f0, f1, f2, f3⟩; omega))]
    · simp [go_sem, hf, hwn]
      replace hu := hu.trans u3
      replace hh := u3.get hh (by simp [noB])
      replace hz := u3.get hz (by simp [noB])
      have hsz0 : zeroH.cells.size = 26 := HeadV.size _
      refine CallP.mono (number_any (hb.keep0 hu) (by omega) (a + 36) 4 (by omega) (by omega) (by decide)) ?_
      rintro r _ ⟨rfl, rfl⟩
      simp [go_sem, hwn, hh]
      refine gen_call ?_
      intro W2 hW2
      have hu2 : Upd noB w W2 := by rw [hW2]; exact hu.setB _ _ (fun h => absurd h (by omega))
      have hh2 : W2.heap[w.heap.size + 1]? = some (.cells (GT l a).cells 28 (0, 0)) := by rw [hW2, heap_setB, if_pos rfl, hh]; rfl
      have hz2 : W2.heap[w.heap.size]? = some (.cells zeroH.cells 28 (0, 0)) := by rw [hW2, heap_setB, if_neg (by omega)]; exact hz
      clear hW2 hu hh hz
      revert W2
      intro W hu hh hz
      refine CallP.mono (number_any (hb.keep0 hu) (by omega) (a + 32) 4 (by omega) (by omega) (by decide)) ?_
      rintro r _ ⟨rfl, rfl⟩
      by_cases hl0 : numAt l (a + 32) 4 = 0
      · have hlast : (¬ hasF (numAt l (a + 16) 4) 2) → numAt l (a + 32) 4 = 0 := fun _ => hl0
        simp [go_sem, hwn, hl0]
        have hS : (cutL l (a + 48) 16).length = 16 := cutL_len l (a + 48) 16 (by omega)
        refine den_loop (SgI w p l.length cap a (GT l a) (cutL l (a + 48) 16)) 16 ?_ ?_
        · exact ⟨0, zeroH.sign, rfl, by omega, rfl, by simp [go_sem], by simp [go_sem], by simp [go_sem], by simp [go_sem], by simp [go_sem], hu, hh, hz⟩
        · clear hu hh hz
          rintro m ρ W ⟨i, X, rfl, hi, hX, g0, g1, g4, g6, g7, hu, hh, hz⟩
          have hbW := hb.keep0 hu
          by_cases hlt : i < 16
          · have hlt' : (i : Int) < 16 := by omega
            have hwr : IntKind.i64.wrap ((i : Int) + 1) = ((i + 1 : Nat) : Int) := wrap64_id (by omega) (by omega)
            have hwa : IntKind.i64.wrap ((a : Int) + 48 + i) = (a : Int) + 48 + i := wrap64_id (by omega) (by omega)
            obtain ⟨q, hidx, _, hK⟩ := hbW.at (P := Tryz.prog) (t := 31) (e := 5) Tryz.underlying31 Tryz.sizeOf5 Tryz.isAgg5 (a + 48 + i) (by omega)
            obtain ⟨x, hx⟩ : ∃ x, x = l[a + 48 + i]'(by omega) := ⟨_, rfl⟩
            rw [← hx] at hK
            rw [show ((a + 48 + i : Nat) : Int) = (a : Int) + 48 + i by omega] at hidx
            have hsz : { (GT l a) with sign := X }.cells.size = 26 := HeadV.size _
            have hst := head_set_sign { (GT l a) with sign := X } i hlt x
            have hin : 10 + i < 26 := by omega
            simp [go_sem, g0, g1, g4, g6, g7, hlt', hlt, hwn, hwa, hidx, hK, hh, hin, hst]
            refine ⟨16 - (i + 1), by omega, i + 1, ⟨X.1.set i x, by rw [List.length_set]; exact X.2⟩, rfl, by omega, ?_, by simp [go_sem, g0], by simp [go_sem, g1], by simp [go_sem, g4], by simp [go_sem, g6], by simp [go_sem, hwr], hu.setB _ _ (fun h => absurd h (by omega)), ?_, ?_⟩
            · show X.1.set i x = _
              have e1 : 16 - i = (16 - (i + 1)) + 1 := by omega
              have e2 : (cutL l (a + 48) 16)[i]'(by omega) = x := by rw [hx]; simp [cutL]
              rw [hX, e1, List.replicate_succ, List.set_append_right _ _ (by simp; omega), List.take_succ_eq_append_getElem (by omega), e2]
              have e3 : i - (List.take i (cutL l (a + 48) 16)).length = 0 := by simp; omega
              rw [e3]
              simp
            · rw [heap_setB, if_pos rfl, hh]; rfl
            · rw [heap_setB, if_neg (by omega)]; exact hz
          · have hi' : i = 16 := by omega
            subst hi'
            have hXe : X = ⟨cutL l (a + 48) 16, hS⟩ := by
              apply Subtype.ext
              rw [hX, List.take_of_length_le (by omega)]; simp
            subst hXe
            have hfin : { (GT l a) with sign := ⟨cutL l (a + 48) 16, hS⟩ } = getH l a := by
              simp [GA, GT, gH, getH, hf, hS]
            simp [go_sem, g0, g1, g4, g6, g7]
            have hsz0 : zeroH.cells.size = 26 := HeadV.size _
            rw [hfin] at hh
            obtain ⟨q0, i0, _, k0⟩ := hbW.at (P := Tryz.prog) (t := 31) (e := 5) Tryz.underlying31 Tryz.sizeOf5 Tryz.isAgg5 (a + 0) (by omega)
            obtain ⟨c0, e0⟩ : ∃ c, c = (l[a + 0]'(by omega)).toNat := ⟨_, rfl⟩
            rw [← e0] at k0
            rw [show ((a + 0 : Nat) : Int) = (a : Int) + 0 by omega] at i0
            obtain ⟨q1, i1, _, k1⟩ := hbW.at (P := Tryz.prog) (t := 31) (e := 5) Tryz.underlying31 Tryz.sizeOf5 Tryz.isAgg5 (a + 1) (by omega)
            obtain ⟨c1, e1⟩ : ∃ c, c = (l[a + 1]'(by omega)).toNat := ⟨_, rfl⟩
            rw [← e1] at k1
            rw [show ((a + 1 : Nat) : Int) = (a : Int) + 1 by omega] at i1
            obtain ⟨q2, i2, _, k2⟩ := hbW.at (P := Tryz.prog) (t := 31) (e := 5) Tryz.underlying31 Tryz.sizeOf5 Tryz.isAgg5 (a + 2) (by omega)
            obtain ⟨c2, e2⟩ : ∃ c, c = (l[a + 2]'(by omega)).toNat := ⟨_, rfl⟩
            rw [← e2] at k2
            rw [show ((a + 2 : Nat) : Int) = (a : Int) + 2 by omega] at i2
            obtain ⟨q3, i3, _, k3⟩ := hbW.at (P := Tryz.prog) (t := 31) (e := 5) Tryz.underlying31 Tryz.sizeOf5 Tryz.isAgg5 (a + 3) (by omega)
            obtain ⟨c3, e3⟩ : ∃ c, c = (l[a + 3]'(by omega)).toNat := ⟨_, rfl⟩
            rw [← e3] at k3
            rw [show ((a + 3 : Nat) : Int) = (a : Int) + 3 by omega] at i3
            rw [show (a : Int) + 0 = (a : Int) by omega] at i0
            have hmag := magic_iff l a (by omega)
            have e0' : (l[a]'(by omega)).toNat = c0 := e0.symm
            rw [e0', ← e1, ← e2, ← e3] at hmag
            have hbadm : ¬ (c0 = 254 ∧ c1 = 83 ∧ c2 = 77 ∧ c3 = 66) → badH l a = true := by
              intro hn
              have : ¬ numAt l a 4 = 1112364030 := fun e => hn (hmag.1 e)
              simp [badH, this]
            by_cases m0 : c0 = 254
            · by_cases m1 : c1 = 83
              · by_cases m2 : c2 = 77
                · by_cases m3 : c3 = 66
                  · skip
                    have hm4 : numAt l a 4 = 1112364030 := hmag.2 ⟨m0, m1, m2, m3⟩
                    simp [go_sem, g0, g1, g4, g6, g7, hwn, hh, hz, hsz0, i0, k0, i1, k1, i2, k2, i3, k3, m0, m1, m2, m3]
                    refine CallP.mono (number_any hbW (by omega) (a + 4) 2 (by omega) (by omega) (by decide)) ?_
                    rintro r _ ⟨rfl, rfl⟩
                    by_cases h4 : numAt l (a + 4) 2 = 64
                    · simp [go_sem, g0, g1, g4, g6, g7, hh, h4]
                      refine CallP.mono (refMay_any (getH l a) (getH_ok l a) _) ?_
                      rintro r w5 ⟨rfl, u5⟩
                      have hh5 := u5.get hh (by simp [noB])
                      have hz5 := u5.get hz (by simp [noB])
                      have hu5 := hu.trans u5
                      cases hmay : mayL (getH l a) with
                      | false =>
                        simp [go_sem, g0, g1, g4, g6, g7, hh5, hz5, hsz0]
                        refine ⟨hu5.setB _ _ (fun h => absurd h (by omega)), ?_⟩
                        unfold GetOut
                        rw [if_neg h64, if_pos (by simp [badH, hmay])]
                      | true =>
                        simp [go_sem, g0, g1, g4, g6, g7, hh5, hz5, hsz0]
                        refine ⟨hu5.setB _ _ (fun h => absurd h (by omega)), ?_⟩
                        unfold GetOut
                        rw [if_neg h64, if_neg (by simp [badH, hmay, hm4, h4]; exact hlast)]
                    · have h4' : ¬ (numAt l (a + 4) 2 : Int) = 64 := by omega
                      simp [go_sem, g0, g1, g4, g6, g7, hh, hz, hsz0, h4', h4]
                      refine ⟨hu.setB _ _ (fun h => absurd h (by omega)), ?_⟩
                      unfold GetOut
                      rw [if_neg h64, if_pos (by simp [badH, h4])]
                  · have n3' : ¬ (c3 : Int) = 66 := by omega
                    simp [go_sem, g0, g1, g4, g6, g7, hwn, hh, hz, hsz0, i0, k0, i1, k1, i2, k2, i3, k3, m0, m1, m2, m3, n3']
                    refine ⟨hu.setB _ _ (fun h => absurd h (by omega)), ?_⟩
                    unfold GetOut
                    rw [if_neg h64, if_pos (hbadm (by rintro ⟨f0, f1, f2, f3⟩; omega))]
                · have n2' : ¬ (c2 : Int) = 77 := by omega
                  simp [go_sem, g0, g1, g4, g6, g7, hwn, hh, hz, hsz0, i0, k0, i1, k1, i2, k2, i3, k3, m0, m1, m2, n2']
                  refine ⟨hu.setB _ _ (fun h => absurd h (by omega)), ?_⟩
                  unfold GetOut
                  rw [if_neg h64, if_pos (hbadm (by rintro ⟨f0, f1, f2, f3⟩; omega))]
              · have n1' : ¬ (c1 : Int) = 83 := by omega
                simp [go_sem, g0, g1, g4, g6, g7, hwn, hh, hz, hsz0, i0, k0, i1, k1, i2, k2, i3, k3, m0, m1, n1']
                refine ⟨hu.setB _ _ (fun h => absurd h (by omega)), ?_⟩
                unfold GetOut
                rw [if_neg h64, if_pos (hbadm (by rintro ⟨f0, f1, f2, f3⟩; omega))]
            · have n0' : ¬ (c0 : Int) = 254 := by omega
              simp [go_sem, g0, g1, g4, g6, g7, hwn, hh, hz, hsz0, i0, k0, i1, k1, i2, k2, i3, k3, m0, n0']
              refine ⟨hu.setB _ _ (fun h => absurd h (by omega)), ?_⟩
              unfold GetOut
              rw [if_neg h64, if_pos (hbadm (by rintro ⟨f0, f1, f2, f3⟩; omega))]
      · have hl0' : ¬ (numAt l (a + 32) 4 : Int) = 0 := by omega
        simp [go_sem, hwn, hl0', hl0, hh, hz, hsz0]
        refine ⟨hu.setB _ _ (fun h => absurd h (by omega)), ?_⟩
        unfold GetOut
        rw [if_neg h64, if_pos (by simp [badH, hf, hl0])]
end Go.Proofs.YtinfdomlpbikaaaGreatDoor
