import Derived.Test.YtnelmicecaggoaaHoldE
namespace Go.Proofs.Ytnelmicecaggoaa
open Go.Eng
set_option linter.unusedSimpArgs false
set_option maxRecDepth 100000
/-- the holds' blocks are all new since n -/
def NewSince (n hb mb : Nat) (E : List (HV × Nat)) : Prop := ∀ b, fpH hb mb E b → n ≤ b
theorem new_upd {w w1 w2 : World} {hb mb : Nat} {E : List (HV × Nat)} (hn : NewSince w.heap.size hb mb E) (h1 : Upd noB w w1) (h2 : Upd (fpH hb mb E) w1 w2) : Upd noB w w2 :=
  h1.trans' h2 (fun b hb hlt => by have := hn b hb; omega)
theorem ack_blocks {E : List (HV × Nat)} {o lv : Int} {x : HV × Nat} (h : x ∈ (ackE E o lv).2) : ∃ y, y ∈ E ∧ y.2 = x.2 := by
  unfold ackE at h
  split at h
  · exact ⟨x, h, rfl⟩
  · split at h
    · split at h
      · exact ⟨x, h, rfl⟩
      · obtain ⟨y, hy, rfl⟩ := List.mem_map.1 h
        refine ⟨y, hy, ?_⟩
        split <;> rfl
    · exact ⟨x, h, rfl⟩
theorem break_blocks {E : List (HV × Nat)} {o to tick : Int} {x : HV × Nat} (h : x ∈ (breakE E o to tick).2.2) : ∃ y, y ∈ E ∧ y.2 = x.2 := by
  unfold breakE updE at h
  split at h
  · exact ⟨x, h, rfl⟩
  · split at h
    · exact ⟨x, h, rfl⟩
    · split at h
      · obtain ⟨y, hy, rfl⟩ := List.mem_map.1 h
        refine ⟨y, hy, ?_⟩
        split <;> rfl
      · obtain ⟨y, hy, rfl⟩ := List.mem_map.1 h
        refine ⟨y, hy, ?_⟩
        split <;> rfl
theorem NewSince.ack {n hb mb : Nat} {E : List (HV × Nat)} (h : NewSince n hb mb E) (o lv : Int) : NewSince n hb mb (ackE E o lv).2 := by
  rintro b (rfl | rfl | ⟨x, hx, rfl⟩)
  · exact h _ (Or.inl rfl)
  · exact h _ (Or.inr (Or.inl rfl))
  · obtain ⟨y, hy, e⟩ := ack_blocks hx
    exact e ▸ h _ (Or.inr (Or.inr ⟨y, hy, rfl⟩))
theorem NewSince.brk {n hb mb : Nat} {E : List (HV × Nat)} (h : NewSince n hb mb E) (o to tick : Int) : NewSince n hb mb (breakE E o to tick).2.2 := by
  rintro b (rfl | rfl | ⟨x, hx, rfl⟩)
  · exact h _ (Or.inl rfl)
  · exact h _ (Or.inr (Or.inl rfl))
  · obtain ⟨y, hy, e⟩ := break_blocks hx
    exact e ▸ h _ (Or.inr (Or.inr ⟨y, hy, rfl⟩))
theorem NewSince.drop {n hb mb : Nat} {E : List (HV × Nat)} (h : NewSince n hb mb E) (o : Int) : NewSince n hb mb (dropE E o) := by
  rintro b (rfl | rfl | ⟨x, hx, rfl⟩)
  · exact h _ (Or.inl rfl)
  · exact h _ (Or.inr (Or.inl rfl))
  · exact h _ (Or.inr (Or.inr ⟨x, (List.mem_filter.1 hx).1, rfl⟩))
theorem NewSince.give {n hb mb nb : Nat} {E : List (HV × Nat)} (h : NewSince n hb mb E) (v : HV) (hn : n ≤ nb) : NewSince n hb mb (E ++ [(v, nb)]) := by
  rintro b (rfl | rfl | ⟨x, hx, rfl⟩)
  · exact h _ (Or.inl rfl)
  · exact h _ (Or.inr (Or.inl rfl))
  · rcases List.mem_append.1 hx with hx | hx
    · exact h _ (Or.inr (Or.inr ⟨x, hx, rfl⟩))
    · simp at hx; subst hx; exact hn
theorem works_any (w : World) : CallP Try.prog 12 #[] w (fun v w' => v = .bool true ∧ Upd noB w w') := by
  refine call_den (args := []) Try.func12 rfl rfl (by simp [Try.ntmps12]) ?_
  simp [go_sem]
  refine new_any w _ ?_
  intro w1 R1 u1 hs1
  have n1 : NewSince w.heap.size (w.heap.size + 1) w.heap.size [] := by
    rintro b (rfl | rfl | ⟨x, hx, _⟩)
    · omega
    · omega
    · cases hx
  simp [go_sem]
  refine CallP.mono (give_any R1 7 1 3 0 false (by decide) (by decide) (by decide) (by decide) rfl) ?_
  rintro v w2 ⟨rfl, nb, R2, hnb, u2⟩
  have e1 : giveLevel [] 7 3 0 false = 3 := rfl
  rw [e1] at R2 ⊢
  simp only [List.nil_append] at R2
  have n2 : NewSince w.heap.size (w.heap.size + 1) w.heap.size [((⟨7, 1, 3, false, 0, 0⟩ : HV), nb)] := n1.give _ (by have := u1.size; omega)
  have u2' := new_upd n1 u1 u2
  simp [go_sem]
  refine CallP.mono (must_any R2 (by intro x hx; simp at hx; subst hx; exact ⟨by show (1 : Int) ≤ 1; decide, by show (1 : Int) < 9223372036854775808; decide⟩) (by simp) 7 0 1 (Or.inl rfl)) ?_
  rintro vl w3 ⟨u3, F, hF, _, own⟩
  have hF1 : F = [((⟨7, 1, 3, false, 0, 0⟩ : HV), nb)] := by
    have : ([((⟨7, 1, 3, false, 0, 0⟩ : HV), nb)].filter fun x => mustP 7 0 (toOf 1) x.1) = [((⟨7, 1, 3, false, 0, 0⟩ : HV), nb)] := rfl
    rw [this] at hF
    exact List.perm_singleton.1 hF
  subst hF1
  have R3 := R2.keep0 u3
  have row3 := RowAt.of_own own
  obtain ⟨q, cap, rfl⟩ := row3.len
  simp [go_sem]
  refine CallP.mono (break_any R3 1 1 5) ?_
  rintro v w4 ⟨rfl, R4, u4⟩
  have e2 : breakE [((⟨7, 1, 3, false, 0, 0⟩ : HV), nb)] 1 1 5 = (true, 0, [((⟨7, 1, 3, true, 1, 5⟩ : HV), nb)]) := rfl
  rw [e2] at R4 ⊢
  have u4' := new_upd n2 (u2'.trans u3) u4
  have n4 : NewSince w.heap.size (w.heap.size + 1) w.heap.size [((⟨7, 1, 3, true, 1, 5⟩ : HV), nb)] := by
    have := n2.brk 1 1 5
    rw [e2] at this
    exact this
  have hown : ∀ b, (Value.slice q 1 cap).ownBlock = some b → w2.heap.size ≤ b := fun b hb => (own.lt b hb).1
  have row4 : RowAt w4 2 (.slice q 1 cap) 1 [.int .i64 1, .int .u8 1] := by
    refine row3.keep u4 (fun b hb => ?_)
    have h1 := hown b hb
    have h2 := (R2.hd)
    rintro (rfl | rfl | ⟨x, hx, rfl⟩)
    · have := (old_ne R2.hd).1; omega
    · have := R2.mp.lt; omega
    · have := (old_ne (R2.cells x hx)).1; omega
  simp [go_sem]
  refine CallP.mono (ack_any R4 1 1) ?_
  rintro v w5 ⟨rfl, R5, u5⟩
  have e3 : ackE [((⟨7, 1, 3, true, 1, 5⟩ : HV), nb)] 1 1 = (0, [((⟨7, 1, 1, false, 0, 0⟩ : HV), nb)]) := rfl
  rw [e3] at R5 ⊢
  have u5' := new_upd n4 u4' u5
  have n5 : NewSince w.heap.size (w.heap.size + 1) w.heap.size [((⟨7, 1, 1, false, 0, 0⟩ : HV), nb)] := by
    have := n4.ack 1 1
    rw [e3] at this
    exact this
  have hnbs : nb < w2.heap.size := (old_ne (R2.cells _ (List.mem_singleton.2 rfl))).1
  have row5 : RowAt w5 2 (.slice q 1 cap) 1 [.int .i64 1, .int .u8 1] := by
    refine row4.keep u5 (fun b hb => ?_)
    have h1 := hown b hb
    rintro (rfl | rfl | ⟨x, hx, rfl⟩)
    · have := (old_ne R2.hd).1; omega
    · have := R2.mp.lt; omega
    · simp at hx; subst hx; simp at h1; omega
  simp [go_sem]
  refine CallP.mono (give_any R5 7 2 2 1 false (by decide) (by decide) (by decide) (by decide) rfl) ?_
  rintro v w6 ⟨rfl, nb2, R6, hnb2, u6⟩
  have e4 : giveLevel [((⟨7, 1, 1, false, 0, 0⟩ : HV), nb)] 7 2 1 false = 1 := rfl
  rw [e4] at R6 ⊢
  have u6' := new_upd n5 u5' u6
  have row6 : RowAt w6 2 (.slice q 1 cap) 1 [.int .i64 1, .int .u8 1] := by
    refine row5.keep u6 (fun b hb => ?_)
    have h1 := hown b hb
    rintro (rfl | rfl | ⟨x, hx, rfl⟩)
    · have := (old_ne R2.hd).1; omega
    · have := R2.mp.lt; omega
    · simp at hx; subst hx; simp at h1; omega
  obtain ⟨p, hi, hl, hK⟩ := row6.atN (P := Try.prog) (t := 34) (e := 40) Try.underlying34 Try.sizeOf40 Try.isAgg40 0 (by decide)
  have hi0 := hi .i64
  simp only [Int.natCast_zero] at hi0
  simp [go_sem, hi0, hK, hl]
  exact u6'
end Go.Proofs.Ytnelmicecaggoaa
