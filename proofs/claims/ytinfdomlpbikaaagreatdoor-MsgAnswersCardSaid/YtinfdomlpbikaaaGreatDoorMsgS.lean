/-
  Heads: their bytes, of the program.
-/
import Derived.Test.YtinfdomlpbikaaaGreatDoorMsgR
namespace Go.Proofs.YtinfdomlpbikaaaGreatDoor
open Go.Eng
set_option linter.unusedSimpArgs false
set_option linter.unusedVariables false
set_option maxRecDepth 100000
variable {w w0 : World}
structure FV where
  place : Int
  size : Nat
  n : Int
def FV.row (f : FV) : List Value := [.int .i64 f.place, .int .i64 (f.size : Int), .int .u64 f.n]
def FV.ok (f : FV) : Prop := sizeOk f.size ∧ 0 ≤ f.n ∧ f.n < 256 ^ f.size
theorem FV.row_len (f : FV) : f.row.length = 3 := (rfl)
theorem slField : SlT Tryz.prog 82 85 3 24 :=
  SlT.mk' Tryz.underlying82 (i := Tryz.t85) (z := .agg #[.int .i64 0, .int .i64 0, .int .u64 0]) (by kernel_rfl) (by kernel_rfl) (by kernel_rfl) (by kernel_rfl) rfl (by decide)
def bothN (h : HeadV) : Int := if hasF h.flags 2 then h.async else h.tree * 4294967296
def fieldsL (h : HeadV) : List FV :=
  [⟨0, 4, 1112364030⟩, ⟨4, 2, 64⟩, ⟨6, 2, h.charge⟩, ⟨8, 4, h.status⟩, ⟨12, 2, h.command⟩, ⟨14, 2, h.credits⟩, ⟨16, 4, h.flags⟩, ⟨20, 4, h.next⟩, ⟨24, 8, h.id⟩, ⟨32, 8, bothN h⟩, ⟨40, 8, h.session⟩]
theorem or0_u64 {a : Int} (h0 : 0 ≤ a) (h1 : a < 18446744073709551616) : bits .or .u64 a 0 = a := by
  obtain ⟨n, rfl⟩ := Int.eq_ofNat_of_zero_le h0
  exact (bits_or_u64_nat n 0 (by omega) (by omega)).trans (by simp)
theorem or0_u64' {a : Int} (h0 : 0 ≤ a) (h1 : a < 18446744073709551616) : bits .or .u64 0 a = a := by
  obtain ⟨n, rfl⟩ := Int.eq_ofNat_of_zero_le h0
  exact (bits_or_u64_nat 0 n (by omega) (by omega)).trans (by simp)
theorem fields_ok (h : HeadV) (ok : h.ok) : ∀ f, f ∈ fieldsL h → f.ok := by
  have hb : 0 ≤ bothN h ∧ bothN h < 18446744073709551616 := by
    unfold bothN
    have := ok.tree
    split
    · exact ok.async
    · omega
  intro f hf
  simp only [fieldsL, List.mem_cons, List.mem_nil_iff, or_false] at hf
  rcases hf with rfl | rfl | rfl | rfl | rfl | rfl | rfl | rfl | rfl | rfl | rfl
  · exact ⟨by decide, by decide, by decide⟩
  · exact ⟨by decide, by decide, by decide⟩
  · exact ⟨(by decide : sizeOk 2), ok.charge⟩
  · exact ⟨(by decide : sizeOk 4), ok.status⟩
  · exact ⟨(by decide : sizeOk 2), ok.command⟩
  · exact ⟨(by decide : sizeOk 2), ok.credits⟩
  · exact ⟨(by decide : sizeOk 4), ok.flags⟩
  · exact ⟨(by decide : sizeOk 4), ok.next⟩
  · exact ⟨(by decide : sizeOk 8), ok.id⟩
  · exact ⟨(by decide : sizeOk 8), hb⟩
  · exact ⟨(by decide : sizeOk 8), ok.session⟩
theorem leB_two (t : Nat) (ht : t < 4294967296) : leB (t * 4294967296) 8 = leB 0 4 ++ leB t 4 := by
  have h := leB_numB (leB 0 4 ++ leB t 4)
  rw [numB_append, numB_leB, numB_leB] at h
  simp only [List.length_append, leB_len] at h
  have e : 0 % 256 ^ 4 + 256 ^ 4 * (t % 256 ^ 4) = t * 4294967296 := by omega
  rw [e] at h
  exact h
theorem fields_bytes (h : HeadV) (ok : h.ok) : (fieldsL h).flatMap (fun f => leB f.n.toNat f.size) = headA h := by
  have e : leB (bothN h).toNat 8 = asyncB h := by
    unfold bothN asyncB
    by_cases hf : hasF h.flags 2
    · rw [if_pos hf, if_pos hf]
    · rw [if_neg hf, if_neg hf]
      have := ok.tree
      have e2 : (h.tree * 4294967296).toNat = h.tree.toNat * 4294967296 := by omega
      rw [e2, leB_two _ (by omega)]
  have e1 : leB (1112364030 : Int).toNat 4 = [0xfe, 0x53, 0x4d, 0x42] := by decide
  have e2 : (64 : Int).toNat = 64 := rfl
  simp only [fieldsL, List.flatMap_cons, List.flatMap_nil, List.append_nil]
  rw [e, e1, e2]
  unfold headA
  simp only [List.append_assoc]
set_option maxHeartbeats 2000000 in
theorem fields_any (h : HeadV) (ok : h.ok) (hm : mayL h = true) (w : World) : CallP Tryz.prog 55 #[.agg h.cells] w (fun r w' => Upd noB w w' ∧ RowAt w' 3 r 11 ((fieldsL h).flatMap FV.row)) := by
  have c0 : IntKind.u64.wrap h.charge = h.charge := wrap64 ok.charge.1 (by have := ok.charge; omega)
  have c1 : IntKind.u64.wrap h.status = h.status := wrap64 ok.status.1 (by have := ok.status; omega)
  have c2 : IntKind.u64.wrap h.command = h.command := wrap64 ok.command.1 (by have := ok.command; omega)
  have c3 : IntKind.u64.wrap h.credits = h.credits := wrap64 ok.credits.1 (by have := ok.credits; omega)
  have c4 : IntKind.u64.wrap h.flags = h.flags := wrap64 ok.flags.1 (by have := ok.flags; omega)
  have c5 : IntKind.u64.wrap h.next = h.next := wrap64 ok.next.1 (by have := ok.next; omega)
  have c8 : IntKind.u64.wrap h.tree = h.tree := wrap64 ok.tree.1 (by have := ok.tree; omega)
  have cb : bits .or .u64 h.async (IntKind.u64.wrap (h.tree * 4294967296)) = bothN h := by
    have ht := ok.tree
    unfold mayL at hm
    unfold bothN
    by_cases hf : hasF h.flags 2
    · rw [if_pos hf] at hm ⊢
      simp at hm
      rw [hm.2.2]
      exact or0_u64 ok.async.1 ok.async.2
    · rw [if_neg hf] at hm ⊢
      simp at hm
      rw [hm.2.2, wrap64 (by omega) (by omega)]
      exact or0_u64' (by omega) (by omega)
  refine call_den (args := [_]) Tryz.func55 rfl rfl (by simp [Tryz.ntmps55]) ?_
  simp [go_sem, c0, c1, c2, c3, c4, c5, c8, cb]
  rw [slField.buildN 11 _ rfl (by simp [Value.cells]) (by decide) (by decide)]
  simp [go_sem, Value.cells]
  refine ⟨((Upd.refl _ _).alloc _).alloc _, by simp [fieldsL, FV.row], Or.inr ⟨_, 0, 11, _, _, _, rfl, by rw [heap_alloc, if_pos (by simp)], by simp, ?_⟩⟩
  simp [fieldsL, FV.row]
theorem FV.row_one (f : FV) : ∀ u ∈ f.row, u.oneCell' = true := by
  intro u hu
  simp [FV.row] at hu
  rcases hu with rfl | rfl | rfl <;> rfl
def HPutI (wb : World) (bh : Nat) (vf : Value) (F : List FV) (m : Nat) (ρ : Env) (w' : World) : Prop :=
  ∃ (i : Nat) (v : Value), m = F.length - i ∧ i ≤ F.length ∧ ρ 1 = .pointer (some ⟨bh, 0, none⟩) ∧ ρ 4 = v ∧ ρ 13 = vf ∧ ρ 14 = .int .i64 F.length ∧ ρ 15 = .int .i64 i ∧ Upd noB wb w' ∧ OwnB w' wb.heap.size v ((F.take i).flatMap (fun f => leB f.n.toNat f.size))
theorem put_len (F : List FV) (hF : ∀ f, f ∈ F → f.ok) : (F.flatMap (fun f => leB f.n.toNat f.size)).length ≤ 8 * F.length := by
  induction F with
  | nil => simp
  | cons f r ih =>
    have h1 := (hF f (by simp)).1
    have h2 := ih (fun g hg => hF g (by simp [hg]))
    unfold sizeOk at h1
    simp only [List.flatMap_cons, List.length_append, leB_len, List.length_cons]
    omega
set_option maxHeartbeats 4000000 in
theorem headPut_any (h : HeadV) (ok : h.ok) (w : World) : CallP Tryz.prog 33 #[.agg h.cells] w (fun r w' => Upd noB w w' ∧
    if mayL h then ∃ v, r = .tuple #[v, .int .i64 0] ∧ OwnB w' w.heap.size v (headB h) else r = .tuple #[.slice none 0 0, .int .i64 2]) := by
  obtain ⟨wb, hwb⟩ : ∃ wb, wb = w.alloc (.cells h.cells 28) := ⟨_, rfl⟩
  have hb : wb.heap[w.heap.size]? = some (.cells h.cells 28 (0, 0)) := by rw [hwb, heap_alloc, if_pos rfl]
  have ub : Upd noB w wb := by rw [hwb]; exact (Upd.refl _ _).alloc _
  refine call_den (args := [_]) Tryz.func33 rfl rfl (by simp [Tryz.ntmps33]) ?_
  simp [go_sem]
  rw [← hwb]
  refine CallP.mono (headMay_any h ok wb) ?_
  rintro r w1 ⟨rfl, u1⟩
  cases hm : mayL h with
  | false =>
    simp [go_sem]
    exact ub.trans u1
  | true =>
    have hb1 := u1.get hb (by simp [noB])
    simp [go_sem, hb1]
    refine CallP.mono (fields_any h ok hm w1) ?_
    rintro vf w2 ⟨u2, row⟩
    obtain ⟨p, cap, rfl⟩ := row.len
    have u12 : Upd noB wb w2 := u1.trans u2
    have hF := fields_ok h ok
    have hFB := fields_bytes h ok
    have hFl : (fieldsL h).length = 11 := rfl
    generalize fieldsL h = F at *
    simp [go_sem]
    refine den_loop (HPutI w2 w.heap.size (.slice p 11 cap) F) 11 ?_ ?_
    · exact ⟨0, .slice none 0 0, by omega, by omega, by simp [go_sem], by simp [go_sem], by simp [go_sem], by simp [go_sem, hFl], by simp [go_sem], Upd.refl _ _, slByte_nil _ _⟩
    · rintro m ρ w' ⟨i, v, rfl, hi, g1, g4, g13, g14, g15, hu, own⟩
      rw [hFl] at g14
      have hb2 := hu.get (u2.get hb1 (by simp [noB])) (by simp [noB])
      replace row := row.keep hu (fun _ _ h => h)
      by_cases hlt : i < F.length
      · have hlt' : (i : Int) < 11 := by omega
        have hwr : IntKind.i64.wrap ((i : Int) + 1) = ((i + 1 : Nat) : Int) := wrap64_id (by omega) (by omega)
        obtain ⟨q, hidx, hld, hK⟩ := row.atN (P := Tryz.prog) (t := 82) (e := 85) Tryz.underlying82 Tryz.sizeOf85 Tryz.isAgg85 i (by omega)
        have hrow : (((F.flatMap FV.row).drop (i * 3)).take 3).toArray = F[i].row.toArray := by rw [flat_at FV.row 3 FV.row_len F i hlt]
        rw [hrow] at hK
        have hok := hF _ (List.getElem_mem hlt)
        have htk : (F.take (i + 1)).flatMap (fun f => leB f.n.toNat f.size) = (F.take i).flatMap (fun f => leB f.n.toNat f.size) ++ leB F[i].n.toNat F[i].size := by
          rw [List.take_succ_eq_append_getElem hlt, List.flatMap_append]; simp
        have hlen := put_len (F.take i) (fun f hf => hF f (List.mem_of_mem_take hf))
        rw [List.length_take] at hlen
        obtain ⟨f, hf⟩ : ∃ f, f = F[i] := ⟨_, rfl⟩
        rw [← hf] at hK hok htk
        unfold FV.row at hK
        simp [go_sem, g1, g4, g13, g14, g15, hlt', hidx, hK]
        have ua : Upd noB w' ((w'.alloc (.cells #[.int .i64 0, .int .i64 0, .int .u64 0] 85)).setB w'.heap.size (.cells #[.int .i64 f.place, .int .i64 f.size, .int .u64 f.n] 85)) := ((Upd.refl noB w').alloc _).setB _ _ (fun h => absurd h (by omega))
        refine CallP.mono (endsPut_z hok.1 hok.2.1 hok.2.2 _) ?_
        rintro r w3 ⟨x, rfl, u3, own3⟩
        have u3' := ua.trans u3
        obtain ⟨v', w4, hrun, own4, hg4⟩ := OwnB.append (l := (F.take i).flatMap (fun f => leB f.n.toNat f.size)) (own_keep0 own u3') own3.at 31 (by rw [leB_len]; have := hok.1; unfold sizeOk at this; omega) (hu.trans u3').size
        simp [go_sem, g1, g4, g13, g14, g15, K_append_ok _ _ _ _ hrun]
        have u4 : Upd noB w2 w4 := upd_append (own_keep0 own u3') (hu.trans u3') (Nat.le_refl _) hg4
        refine ⟨F.length - (i + 1), by omega, i + 1, v', rfl, by omega, by simp [go_sem, g1], by simp [go_sem], by simp [go_sem, g13], by simp [go_sem, g14, hFl], by simp [go_sem, hwr], u4, by rw [htk]; exact own4⟩
      · have hi' : i = 11 := by omega
        subst hi'
        rw [← hFl, List.take_length, hFB] at own
        obtain ⟨v', w4, hrun, own4, hg4⟩ := own.append (sign_at hb2) 31 (by rw [headA_len, h.sign.2]; decide) hu.size
        simp [go_sem, g1, g4, g13, g14, g15, K_append_ok _ _ _ _ hrun]
        exact ⟨ub.trans (u12.trans (upd_append own hu (Nat.le_refl _) hg4)), own_base own4 (ub.trans u12).size⟩
end Go.Proofs.YtinfdomlpbikaaaGreatDoor
