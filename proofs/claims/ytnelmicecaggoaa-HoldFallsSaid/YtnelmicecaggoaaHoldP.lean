/-
  The acts played on both.
-/
import Derived.Test.YtnelmicecaggoaaHoldZ
namespace Go.Proofs.Ytnelmicecaggoaa
open Go.Eng
set_option linter.unusedSimpArgs false
set_option linter.unusedVariables false
set_option maxRecDepth 100000
def ActV.row (a : ActV) : List Value := a.cells.toList
theorem ActV.row_len (a : ActV) : a.row.length = 7 := (rfl)
def stepL (L : List HV) (a : ActV) : List HV := actL a L
def playL (l : List ActV) : List HV := (l.take 60).foldl stepL []
theorem srt_perm : ∀ {A B : List HV}, A.Perm B → Srt A → Srt B → A = B := by
  intro A
  induction A with
  | nil => intro B h _ _; exact (List.nil_perm.1 h).symm
  | cons x r ih =>
    intro B h hA hB
    rw [Srt, List.pairwise_cons] at hA
    cases B with
    | nil => exact absurd (List.perm_nil.1 h) (by simp)
    | cons y s =>
      rw [Srt, List.pairwise_cons] at hB
      have hxy : x = y := by
        have h1 : x ∈ y :: s := h.mem_iff.1 (by simp)
        have h2 : y ∈ x :: r := h.mem_iff.2 (by simp)
        rcases List.mem_cons.1 h1 with e | h1
        · exact e
        · rcases List.mem_cons.1 h2 with e | h2
          · exact e.symm
          · have := hB.1 x h1; have := hA.1 y h2; omega
      subst hxy
      rw [ih (List.Perm.cons_inv h) hA.2 hB.2]
variable {w0 w : World} {hb mb rb : Nat} {E : List (HV × Nat)} {v : Value} {L : List HV} {n : Nat}
/-- All's list, against the document's -/
theorem all_rel (R : Rel w0 w hb mb E rb v L n) (hn : n ≤ 1000) : CallP Try.prog 13 #[ptrOf hb] w (fun r w' => Upd noB w w' ∧ w'.ownsRow w.heap.size 32 6 r L.length (L.flatMap HV.row)) := by
  refine CallP.mono (all_any R.h R.hO (by rw [R.elen]; have := R.len; omega)) ?_
  rintro r w' ⟨hu, F, hp, hs, own⟩
  have e : F.map (·.1) = L := srt_perm ((hp.map _).trans R.pm) (List.pairwise_map.2 hs) R.srt
  have e1 : F.length = L.length := by rw [← e, List.length_map]
  have e2 : (F.flatMap fun x => x.1.cells.toList) = L.flatMap HV.row := by rw [← e, List.flatMap_map]; rfl
  rw [e1, e2] at own
  exact ⟨hu, own⟩
def PlayI (w0 : World) (l : List ActV) (vl : Value) (m : Nat) (ρ : Env) (w' : World) : Prop :=
  ∃ (k hb mb rb : Nat) (E : List (HV × Nat)) (v : Value), m = l.length - k ∧ k ≤ l.length ∧ k ≤ 60 ∧ ρ 0 = vl ∧ ρ 5 = ptrOf hb ∧ ρ 6 = ptrOf rb ∧ ρ 7 = .int .i64 k ∧ Rel w0 w' hb mb E rb v ((l.take k).foldl stepL []) k
def PlayOut (w0 : World) (l : List ActV) (r : Value) (w' : World) : Prop :=
  ∃ (hb mb rb : Nat) (E : List (HV × Nat)) (v : Value), r = .tuple #[ptrOf hb, ptrOf rb, .bool true] ∧ Rel w0 w' hb mb E rb v (playL l) 60
def RbS (rb : Nat) (v : Value) (W : World) : Prop := W.heap[rb]? = some (.cells #[v] 46 (0, 0))
set_option maxHeartbeats 4000000 in
theorem played_any {vl : Value} {l : List ActV} (hl : RowAt w0 7 vl l.length (l.flatMap ActV.row)) (hok : ∀ a, a ∈ l → a.ok) (hlen : l.length ≤ 9223372036854775807) :
    CallP Try.prog 11 #[vl] w0 (PlayOut w0 l) := by
  obtain ⟨pl, cl, rfl⟩ := hl.len
  refine call_den (args := [_]) Try.func11 rfl rfl (by simp [Try.ntmps11]) ?_
  simp [go_sem]
  refine new_any w0 _ ?_
  intro w1 R1 u1 hs1
  simp [go_sem]
  refine den_loop (PlayI w0 l (.slice pl l.length cl)) l.length ?_ ?_
  · refine ⟨0, w0.heap.size + 1, w0.heap.size, w1.heap.size, [], .slice none 0 0, rfl, Nat.zero_le _, by omega, by simp [go_sem], by simp [go_sem], by simp [go_sem], by simp [go_sem], ?_⟩
    simp [go_sem]
    have ua : Upd noB w1 (w1.alloc (.cells #[.slice none 0 0] 46)) := (Upd.refl _ _).alloc _
    refine ⟨R1.keep0 ua, ⟨by rw [heap_alloc, if_pos rfl], World.ownsRow_nil _ _ _ _⟩, u1.trans ua, ?_, by omega, ?_, List.Perm.refl _, List.Pairwise.nil, by simp, by simp⟩
    · rintro b (rfl | rfl | ⟨x, hx, _⟩)
      · omega
      · omega
      · cases hx
    · rintro b (rfl | rfl | ⟨x, hx, _⟩)
      · rintro (h | h)
        · omega
        · cases h
      · rintro (h | h)
        · omega
        · cases h
      · cases hx
  · rintro m ρ w' ⟨k, hb, mb, rb, E, v, rfl, hk, hk60, h0, h5, h6, h7, R⟩
    by_cases hlt : k < l.length
    · by_cases h60 : k < 60
      · have hud : Upd noB w0 w'.drew := R.u.drew
        have Rd := R.keep0 ((Upd.refl noB w').drew)
        obtain ⟨q, hi, hl2, hK⟩ := (hl.keep hud (by simp [noB])).atN (P := Try.prog) (t := 22) (e := 51) Try.underlying22 Try.sizeOf51 Try.isAgg51 k hlt
        have hrow : (((l.flatMap ActV.row).drop (k * 7)).take 7).toArray = l[k].cells := by rw [flat_at ActV.row 7 ActV.row_len l k hlt]; rfl
        rw [hrow] at hl2 hK
        have hact := act_any Rd (by omega) l[k] (hok _ (List.getElem_mem hlt))
        have htk : (l.take (k + 1)).foldl stepL [] = actL l[k] ((l.take k).foldl stepL []) := by
          rw [List.take_succ_eq_append_getElem hlt, List.foldl_append]; rfl
        have hk6' : (k : Int) < 60 := by omega
        simp [go_sem, h0, h5, h6, h7, hlt, hk6']
        refine draw_script [.pure 0, .pure 1, .pure 2, .pure 3, .one 4, .one 5, .one 6, .one 7, .pure 8, .pure 9, .pure 11, .held [12, 13, 14] 10, .one 15, .one 16, .one 17] (by kernel_rfl) (by kernel_rfl) (by kernel_rfl) ?_
        simp [go_sem, h0, h5, h6, h7, hlt, hi, hK]
        refine CallP.mono hact ?_
        rintro r w2 ⟨rfl, E', v', R2⟩
        simp [go_sem, h0, h5, h6, h7]
        have hS : ∀ i : { W : World // RbS rb v' W }, i.1.heap[rb]? = some (.cells #[v'] 46 (0, 0)) := fun i => i.2
        haveI : Nonempty { W : World // RbS rb v' W } := ⟨⟨w2, R2.r.rd⟩⟩
        refine opsPh_held _ _ (RbS rb v') R2.r.rd ?_
        simp [go_sem, h0, h5, h6, h7, hS]
        refine CallP.mono (all_rel R2 (by omega)) ?_
        rintro r w3 ⟨u3, own3⟩
        have R3 := R2.keep0 u3
        simp [go_sem, h0, h5, h6, h7]
        refine ⟨R3.r.rd, ?_⟩
        refine CallP.mono (holds_same (RowAt.of_own own3) (RowAt.of_own R3.r.own) (by have := R3.len; omega)) ?_
        rintro r w4 ⟨rfl, u4⟩
        have R4 := R3.keep0 u4
        have hwr : IntKind.i64.wrap ((k : Int) + 1) = ((k + 1 : Nat) : Int) := wrap64_id (by omega) (by omega)
        simp [go_sem, h0, h5, h6, h7]
        exact ⟨l.length - (k + 1), by omega, k + 1, hb, mb, rb, E', v', rfl, by omega, by omega, by simp [go_sem, h0], by simp [go_sem, h5], by simp [go_sem, h6], by simp [go_sem, hwr], by rw [htk]; exact R4⟩
      · have hk' : k = 60 := by omega
        subst hk'
        have hlt' : (60 : Int) < l.length := by omega
        simp [go_sem, h0, h5, h6, h7, hlt, hlt']
        exact ⟨hb, mb, rb, E, v, rfl, R⟩
    · have hk' : k = l.length := by omega
      subst hk'
      simp [go_sem, h0, h5, h6, h7]
      refine ⟨hb, mb, rb, E, v, rfl, ?_⟩
      have e : playL l = (l.take l.length).foldl stepL [] := by unfold playL; rw [List.take_of_length_le hk60, List.take_of_length_le (Nat.le_refl _)]
      rw [e]
      exact R.more hk60
theorem holdPlays_any {vl : Value} {l : List ActV} (hl : RowAt w0 7 vl l.length (l.flatMap ActV.row)) (hok : ∀ a, a ∈ l → a.ok) (hlen : l.length ≤ 9223372036854775807) :
    CallP Try.prog 3 #[vl] w0 (fun r w' => r = .bool true ∧ Upd noB w0 w') := by
  refine call_den (args := [_]) Try.func3 rfl rfl (by simp [Try.ntmps3]) ?_
  simp [go_sem]
  refine CallP.mono (played_any hl hok hlen) ?_
  rintro r w1 ⟨hb, mb, rb, E, v, rfl, R⟩
  simp [go_sem]
  refine CallP.mono (works_any w1) ?_
  rintro r w2 ⟨rfl, u2⟩
  simp [go_sem]
  exact R.u.trans u2
end Go.Proofs.Ytnelmicecaggoaa
