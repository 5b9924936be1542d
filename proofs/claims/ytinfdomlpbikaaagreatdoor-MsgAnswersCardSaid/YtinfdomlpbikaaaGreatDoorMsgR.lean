/-
  Heads: their bytes.
-/
import Derived.Test.YtinfdomlpbikaaaGreatDoorMsgQ
namespace Go.Proofs.YtinfdomlpbikaaaGreatDoor
open Go.Eng
set_option linter.unusedSimpArgs false
set_option linter.unusedVariables false
set_option maxRecDepth 100000
variable {w w0 : World}
theorem slByte_nil (w : World) (base : Nat) : OwnB w base (.slice none 0 0) [] := World.ownsRow_nil _ _ _ _
/-- put, of an int -/
theorem endsPut_z {z : Int} {k : Nat} (hk : sizeOk k) (h0 : 0 ≤ z) (h1 : z < 256 ^ k) (w : World) :
    CallP Tryz.prog 56 #[.int .u64 z, .int .i64 k] w (fun r w' => ∃ v, r = .tuple #[v, .int .i64 0] ∧ Upd noB w w' ∧ OwnB w' w.heap.size v (leB z.toNat k)) := by
  obtain ⟨n, rfl⟩ := Int.eq_ofNat_of_zero_le h0
  exact endsPut_any n k hk (by have : ((n : Int)) < ((256 ^ k : Nat) : Int) := by simpa using h1
                               omega) w
theorem refPut_z {z : Int} {k : Nat} (hk : sizeOk k) (h0 : 0 ≤ z) (h1 : z < 256 ^ k) (w : World) :
    CallP Tryz.prog 96 #[.int .u64 z, .int .i64 k] w (fun r w' => ∃ v, r = .tuple #[v, .int .i64 0] ∧ Upd noB w w' ∧ OwnB w' w.heap.size v (leB z.toNat k)) := by
  obtain ⟨n, rfl⟩ := Int.eq_ofNat_of_zero_le h0
  exact refPut_any n k hk (by have : ((n : Int)) < ((256 ^ k : Nat) : Int) := by simpa using h1
                              omega) w
theorem lay_any {v : Value} {l : List UInt8} (hu : Upd noB w0 w) (own : OwnB w w0.heap.size v l) {z : Int} {k : Nat} (hk : sizeOk k) (h0 : 0 ≤ z) (h1 : z < 256 ^ k) (hl : l.length ≤ 70368744177664) :
    CallP Tryz.prog 58 #[v, .int .u64 z, .int .i64 k] w (fun r w' => Upd noB w0 w' ∧ OwnB w' w0.heap.size r (l ++ leB z.toNat k)) := by
  have hk8 : k ≤ 8 := by unfold sizeOk at hk; omega
  refine call_den (args := [_, _, _]) Tryz.func58 rfl rfl (by simp [Tryz.ntmps58]) ?_
  simp [go_sem]
  refine CallP.mono (refPut_z hk h0 h1 w) ?_
  rintro r w1 ⟨x, rfl, u1, own1⟩
  have hu1 : Upd noB w0 w1 := hu.trans u1
  obtain ⟨v', w', hrun, own', hg⟩ := OwnB.append (l := l) (own_keep0 own u1) own1.at 31 (by rw [leB_len]; omega) hu1.size
  simp [go_sem, K_append_ok _ _ _ _ hrun]
  exact ⟨upd_append (own_keep0 own u1) hu1 (Nat.le_refl _) hg, own'⟩
theorem lay8_any {v : Value} {l : List UInt8} (hu : Upd noB w0 w) (own : OwnB w w0.heap.size v l) {z : Int} {k : Nat} (hk : sizeOk k) (h0 : 0 ≤ z) (h1 : z < 256 ^ k) (hl : l.length ≤ 70368744177664) :
    CallP Tryz.prog 97 #[v, .int .u64 z, .int .i64 k] w (fun r w' => Upd noB w0 w' ∧ OwnB w' w0.heap.size r (l ++ leB z.toNat k)) := by
  have hk8 : k ≤ 8 := by unfold sizeOk at hk; omega
  refine call_den (args := [_, _, _]) Tryz.func97 rfl rfl (by simp [Tryz.ntmps97]) ?_
  simp [go_sem]
  refine CallP.mono (refPut_z hk h0 h1 w) ?_
  rintro r w1 ⟨x, rfl, u1, own1⟩
  have hu1 : Upd noB w0 w1 := hu.trans u1
  obtain ⟨v', w', hrun, own', hg⟩ := OwnB.append (l := l) (own_keep0 own u1) own1.at 31 (by rw [leB_len]; omega) hu1.size
  simp [go_sem, K_append_ok _ _ _ _ hrun]
  exact ⟨upd_append (own_keep0 own u1) hu1 (Nat.le_refl _) hg, own'⟩
/-- a head's bytes -/
def asyncB (h : HeadV) : List UInt8 := if hasF h.flags 2 then leB h.async.toNat 8 else leB 0 4 ++ leB h.tree.toNat 4
def headA (h : HeadV) : List UInt8 :=
  [0xfe, 0x53, 0x4d, 0x42] ++ leB 64 2 ++ leB h.charge.toNat 2 ++ leB h.status.toNat 4 ++ leB h.command.toNat 2 ++ leB h.credits.toNat 2 ++ leB h.flags.toNat 4 ++ leB h.next.toNat 4 ++ leB h.id.toNat 8 ++ asyncB h ++ leB h.session.toNat 8
def headB (h : HeadV) : List UInt8 := headA h ++ h.sign.1
theorem asyncB_len (h : HeadV) : (asyncB h).length = 8 := by unfold asyncB; split <;> simp [leB_len]
theorem headA_len (h : HeadV) : (headA h).length = 48 := by simp [headA, leB_len, asyncB_len]
theorem headB_len (h : HeadV) : (headB h).length = 64 := by simp [headB, headA_len, h.sign.2]
/-- the signature, in the head's block -/
theorem sign_at {b : Nat} {h : HeadV} {t : TypeId} {f : Nat × Nat} (hb : w.heap[b]? = some (.cells h.cells t f)) : BytesAt w (.slice (some ⟨b, 10, none⟩) 16 16) h.sign.1 := by
  refine ⟨⟨by simp, Or.inr ⟨b, 10, 16, _, _, _, by rw [h.sign.2], hb, by rw [h.sign.2, h.size]; decide, ?_⟩⟩, Nat.le_refl _⟩
  have e : h.row.drop 10 = h.sign.1.map u8V := rfl
  simp [HeadV.cells, e, h.sign.2]
  rw [← List.map_take, List.take_of_length_le (by rw [h.sign.2]; exact Nat.le_refl _)]
def SigI (wb : World) (bh : Nat) (h : HeadV) (m : Nat) (ρ : Env) (w' : World) : Prop :=
  ∃ (i : Nat) (v : Value), m = 16 - i ∧ i ≤ 16 ∧ ρ 1 = .pointer (some ⟨bh, 0, none⟩) ∧ ρ 4 = v ∧ ρ 5 = .int .i64 i ∧ Upd noB wb w' ∧ OwnB w' wb.heap.size v (headA h ++ h.sign.1.take i)
set_option maxHeartbeats 4000000 in
theorem refHeadPut_any (h : HeadV) (ok : h.ok) (w : World) : CallP Tryz.prog 39 #[.agg h.cells] w (fun r w' => Upd noB w w' ∧
    if mayL h then ∃ v, r = .tuple #[v, .int .i64 0] ∧ OwnB w' w.heap.size v (headB h) else r = .tuple #[.slice none 0 0, .int .i64 2]) := by
  obtain ⟨wb, hwb⟩ : ∃ wb, wb = w.alloc (.cells h.cells 28) := ⟨_, rfl⟩
  have hb : wb.heap[w.heap.size]? = some (.cells h.cells 28 (0, 0)) := by rw [hwb, heap_alloc, if_pos rfl]
  have ub : Upd noB w wb := by rw [hwb]; exact (Upd.refl _ _).alloc _
  have c0 : IntKind.u64.wrap h.charge = h.charge := wrap64 ok.charge.1 (by have := ok.charge; omega)
  have c1 : IntKind.u64.wrap h.status = h.status := wrap64 ok.status.1 (by have := ok.status; omega)
  have c2 : IntKind.u64.wrap h.command = h.command := wrap64 ok.command.1 (by have := ok.command; omega)
  have c3 : IntKind.u64.wrap h.credits = h.credits := wrap64 ok.credits.1 (by have := ok.credits; omega)
  have c4 : IntKind.u64.wrap h.flags = h.flags := wrap64 ok.flags.1 (by have := ok.flags; omega)
  have c5 : IntKind.u64.wrap h.next = h.next := wrap64 ok.next.1 (by have := ok.next; omega)
  have c8 : IntKind.u64.wrap h.tree = h.tree := wrap64 ok.tree.1 (by have := ok.tree; omega)
  refine call_den (args := [_]) Tryz.func39 rfl rfl (by simp [Tryz.ntmps39]) ?_
  simp [go_sem]
  rw [← hwb]
  refine CallP.mono (refMay_any h ok wb) ?_
  rintro r w1 ⟨rfl, u1⟩
  cases hm : mayL h with
  | false =>
    simp [go_sem]
    exact ub.trans u1
  | true =>
    simp [go_sem]
    have hb1 := u1.get hb (by simp [noB])
    rw [slByte.buildN 4 _ (by decide) (by decide) (by decide) (by decide)]
    simp [go_sem, Value.cells]
    have own := own_block (w := w1.alloc (.cells #[.int .u8 254, .int .u8 83, .int .u8 77, .int .u8 66] 5)) (base := wb.heap.size) (by rw [heap_alloc, if_pos rfl]) u1.size rfl (by decide)
    have hu : Upd noB wb (w1.alloc (.cells #[.int .u8 254, .int .u8 83, .int .u8 77, .int .u8 66] 5)) := u1.alloc _
    replace own : OwnB (w1.alloc (.cells #[.int .u8 254, .int .u8 83, .int .u8 77, .int .u8 66] 5)) wb.heap.size (.slice (some ⟨w1.heap.size, 0, none⟩) 4 4) [0xfe, 0x53, 0x4d, 0x42] := own
    refine CallP.mono (lay_any hu own (by decide) (by decide) (by decide) (by first | (simp [leB_len, asyncB_len]; done) | (simp [leB_len, asyncB_len]; omega))) ?_
    clear hu own
    rintro v w2 ⟨hu, own⟩
    have hb2 := hu.get hb (by simp [noB])
    simp [go_sem, hb2, c0, c1, c2, c3, c4, c5, c8]
    refine CallP.mono (lay_any hu own (by decide) ok.charge.1 ok.charge.2 (by first | (simp [leB_len, asyncB_len]; done) | (simp [leB_len, asyncB_len]; omega))) ?_
    clear hu own
    rintro v w2 ⟨hu, own⟩
    have hb2 := hu.get hb (by simp [noB])
    simp [go_sem, hb2, c0, c1, c2, c3, c4, c5, c8]
    refine CallP.mono (lay_any hu own (by decide) ok.status.1 ok.status.2 (by first | (simp [leB_len, asyncB_len]; done) | (simp [leB_len, asyncB_len]; omega))) ?_
    clear hu own
    rintro v w2 ⟨hu, own⟩
    have hb2 := hu.get hb (by simp [noB])
    simp [go_sem, hb2, c0, c1, c2, c3, c4, c5, c8]
    refine CallP.mono (lay_any hu own (by decide) ok.command.1 ok.command.2 (by first | (simp [leB_len, asyncB_len]; done) | (simp [leB_len, asyncB_len]; omega))) ?_
    clear hu own
    rintro v w2 ⟨hu, own⟩
    have hb2 := hu.get hb (by simp [noB])
    simp [go_sem, hb2, c0, c1, c2, c3, c4, c5, c8]
    refine CallP.mono (lay_any hu own (by decide) ok.credits.1 ok.credits.2 (by first | (simp [leB_len, asyncB_len]; done) | (simp [leB_len, asyncB_len]; omega))) ?_
    clear hu own
    rintro v w2 ⟨hu, own⟩
    have hb2 := hu.get hb (by simp [noB])
    simp [go_sem, hb2, c0, c1, c2, c3, c4, c5, c8]
    refine CallP.mono (lay_any hu own (by decide) ok.flags.1 ok.flags.2 (by first | (simp [leB_len, asyncB_len]; done) | (simp [leB_len, asyncB_len]; omega))) ?_
    clear hu own
    rintro v w2 ⟨hu, own⟩
    have hb2 := hu.get hb (by simp [noB])
    simp [go_sem, hb2, c0, c1, c2, c3, c4, c5, c8]
    refine CallP.mono (lay_any hu own (by decide) ok.next.1 ok.next.2 (by first | (simp [leB_len, asyncB_len]; done) | (simp [leB_len, asyncB_len]; omega))) ?_
    clear hu own
    rintro v w2 ⟨hu, own⟩
    have hb2 := hu.get hb (by simp [noB])
    simp [go_sem, hb2, c0, c1, c2, c3, c4, c5, c8]
    refine CallP.mono (lay_any hu own (by decide) ok.id.1 ok.id.2 (by first | (simp [leB_len, asyncB_len]; done) | (simp [leB_len, asyncB_len]; omega))) ?_
    clear hu own
    rintro v w2 ⟨hu, own⟩
    have hb2 := hu.get hb (by simp [noB])
    simp [go_sem, hb2, c0, c1, c2, c3, c4, c5, c8]
    refine CallP.mono (has_any h 2 (by decide) ok.flags _) ?_
    rintro r w3 ⟨rfl, u3⟩
    replace hu := hu.trans u3
    replace own := own_keep0 own u3
    have hb3 := hu.get hb (by simp [noB])
    by_cases hf : hasF h.flags 2
    · simp [go_sem, hf, hb3]
      refine CallP.mono (lay_any hu own (by decide) ok.async.1 ok.async.2 (by first | (simp [leB_len, asyncB_len]; done) | (simp [leB_len, asyncB_len]; omega))) ?_
      clear hu own
      rintro v w2 ⟨hu, own⟩
      have hb2 := hu.get hb (by simp [noB])
      simp [go_sem, hb2, c0, c1, c2, c3, c4, c5, c8]
      have ea : asyncB h = leB h.async.toNat 8 := if_pos hf
      refine CallP.mono (lay_any hu own (by decide) ok.session.1 ok.session.2 (by first | (simp [leB_len, asyncB_len]; done) | (simp [leB_len, asyncB_len]; omega))) ?_
      clear hu own
      rintro v w2 ⟨hu, own⟩
      have hb2 := hu.get hb (by simp [noB])
      simp [go_sem, hb2, c0, c1, c2, c3, c4, c5, c8]
      refine den_loop (SigI wb w.heap.size h) 16 ?_ ?_
      · refine ⟨0, v, rfl, by omega, by simp [go_sem], by simp [go_sem], by simp [go_sem], hu, ?_⟩
        unfold headA
        rw [ea, List.take_zero, List.append_nil]
        simpa using own
      · clear hu own hb3 hb1
        rintro m ρ w' ⟨i, v, rfl, hi, g1, g4, g5, hu, own⟩
        have hb4 := hu.get hb (by simp [noB])
        have hs := h.sign.2
        by_cases hlt : i < 16
        · have hlt' : (i : Int) < 16 := by omega
          have hwr : IntKind.i64.wrap ((i : Int) + 1) = ((i + 1 : Nat) : Int) := wrap64_id (by omega) (by omega)
          obtain ⟨x, hx⟩ : ∃ x, x = h.sign.1[i]'(by omega) := ⟨_, rfl⟩
          have hc : h.cells[10 + i]? = some (.int .u8 (x.toNat : Int)) := by
            have e : h.row.drop 10 = h.sign.1.map u8V := rfl
            show h.row.toArray[10 + i]? = _
            rw [List.getElem?_toArray, ← List.getElem?_drop, e, List.getElem?_map, List.getElem?_eq_getElem (by omega), ← hx]
            rfl
          have hb1 := slByte.build1K (w := w') (u8V x) rfl (by decide)
          obtain ⟨v', w2, hrun, own2, hs2, hu2⟩ := own.push1 x 31 (by simp [headA_len, hs]; omega) hu.size
          unfold u8V at hb1 hrun
          have hb1' := fun k => hb1 k
          simp only [Value.cells] at hb1'
          simp [go_sem, g1, g4, g5, hlt', hlt, hb4, hc, hb1', K_append_ok _ _ _ _ hrun]
          refine ⟨16 - (i + 1), by omega, i + 1, v', rfl, by omega, by simp [go_sem, g1], by simp [go_sem], by simp [go_sem, hwr], hu2 _ _ hu (Nat.le_refl _), ?_⟩
          rw [List.take_succ_eq_append_getElem (by omega), ← hx, ← List.append_assoc]
          exact own2
        · have hi' : i = 16 := by omega
          subst hi'
          simp [go_sem, g1, g4, g5]
          rw [List.take_of_length_le (by omega)] at own
          exact ⟨ub.trans hu, own_base own ub.size⟩
    · simp [go_sem, hf, hb3]
      refine CallP.mono (lay_any hu own (by decide) (by decide) (by decide) (by first | (simp [leB_len, asyncB_len]; done) | (simp [leB_len, asyncB_len]; omega))) ?_
      clear hu own
      rintro v w2 ⟨hu, own⟩
      have hb2 := hu.get hb (by simp [noB])
      simp [go_sem, hb2, c0, c1, c2, c3, c4, c5, c8]
      refine CallP.mono (lay_any hu own (by decide) ok.tree.1 ok.tree.2 (by first | (simp [leB_len, asyncB_len]; done) | (simp [leB_len, asyncB_len]; omega))) ?_
      clear hu own
      rintro v w2 ⟨hu, own⟩
      have hb2 := hu.get hb (by simp [noB])
      simp [go_sem, hb2, c0, c1, c2, c3, c4, c5, c8]
      have ea : asyncB h = leB 0 4 ++ leB h.tree.toNat 4 := if_neg hf
      refine CallP.mono (lay_any hu own (by decide) ok.session.1 ok.session.2 (by first | (simp [leB_len, asyncB_len]; done) | (simp [leB_len, asyncB_len]; omega))) ?_
      clear hu own
      rintro v w2 ⟨hu, own⟩
      have hb2 := hu.get hb (by simp [noB])
      simp [go_sem, hb2, c0, c1, c2, c3, c4, c5, c8]
      refine den_loop (SigI wb w.heap.size h) 16 ?_ ?_
      · refine ⟨0, v, rfl, by omega, by simp [go_sem], by simp [go_sem], by simp [go_sem], hu, ?_⟩
        unfold headA
        rw [ea, List.take_zero, List.append_nil]
        simpa using own
      · clear hu own hb3 hb1
        rintro m ρ w' ⟨i, v, rfl, hi, g1, g4, g5, hu, own⟩
        have hb4 := hu.get hb (by simp [noB])
        have hs := h.sign.2
        by_cases hlt : i < 16
        · have hlt' : (i : Int) < 16 := by omega
          have hwr : IntKind.i64.wrap ((i : Int) + 1) = ((i + 1 : Nat) : Int) := wrap64_id (by omega) (by omega)
          obtain ⟨x, hx⟩ : ∃ x, x = h.sign.1[i]'(by omega) := ⟨_, rfl⟩
          have hc : h.cells[10 + i]? = some (.int .u8 (x.toNat : Int)) := by
            have e : h.row.drop 10 = h.sign.1.map u8V := rfl
            show h.row.toArray[10 + i]? = _
            rw [List.getElem?_toArray, ← List.getElem?_drop, e, List.getElem?_map, List.getElem?_eq_getElem (by omega), ← hx]
            rfl
          have hb1 := slByte.build1K (w := w') (u8V x) rfl (by decide)
          obtain ⟨v', w2, hrun, own2, hs2, hu2⟩ := own.push1 x 31 (by simp [headA_len, hs]; omega) hu.size
          unfold u8V at hb1 hrun
          have hb1' := fun k => hb1 k
          simp only [Value.cells] at hb1'
          simp [go_sem, g1, g4, g5, hlt', hlt, hb4, hc, hb1', K_append_ok _ _ _ _ hrun]
          refine ⟨16 - (i + 1), by omega, i + 1, v', rfl, by omega, by simp [go_sem, g1], by simp [go_sem], by simp [go_sem, hwr], hu2 _ _ hu (Nat.le_refl _), ?_⟩
          rw [List.take_succ_eq_append_getElem (by omega), ← hx, ← List.append_assoc]
          exact own2
        · have hi' : i = 16 := by omega
          subst hi'
          simp [go_sem, g1, g4, g5]
          rw [List.take_of_length_le (by omega)] at own
          exact ⟨ub.trans hu, own_base own ub.size⟩
end Go.Proofs.YtinfdomlpbikaaaGreatDoor
