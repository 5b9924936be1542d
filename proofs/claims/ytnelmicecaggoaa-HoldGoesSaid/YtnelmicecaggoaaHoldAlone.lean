/-
  Of each node one hold is above 1, or none.
-/
import Derived.Test.YtnelmicecaggoaaHoldI
namespace Go.Proofs.Ytnelmicecaggoaa
open Go.Eng
set_option linter.unusedSimpArgs false
set_option linter.unusedVariables false
set_option maxRecDepth 100000
variable {w0 w : World} {hb mb rb : Nat} {E : List (HV × Nat)} {v : Value} {L : List HV} {n : Nat}
/-- an own row of holds, read at each place -/
theorem own_read {base : Nat} (own : w.ownsRow base 32 6 v L.length (L.flatMap HV.row)) (h0 : 0 < L.length) :
    ∃ b cap c, v = .slice (some ⟨b, 0, none⟩) L.length cap ∧ w.heap[b]? = some (.cells c 32 (0, 0)) ∧
      ∀ i (hi : i < L.length), c[i * 6]? = some (.int .i64 L[i].node) ∧ c[i * 6 + 1]? = some (.int .i64 L[i].opn) ∧ c[i * 6 + 2]? = some (.int .u8 L[i].level) ∧ c[i * 6 + 3]? = some (.bool L[i].brk) ∧ c[i * 6 + 4]? = some (.int .u8 L[i].to) ∧ c[i * 6 + 5]? = some (.int .i64 L[i].since) := by
  rcases own.2 with ⟨_, hn⟩ | ⟨b, cap, cur, rfl, hbase, hb, hnc, hcap, hcs, htake⟩
  · omega
  · refine ⟨b, cap, cur, rfl, hb, fun i hi => ?_⟩
    have hg : ∀ j, j < 6 → cur[i * 6 + j]? = L[i].row[j]? := by
      intro j hj
      have h3 := congrArg (fun l => l[i * 6 + j]?) htake
      simp only [List.getElem?_take] at h3
      rw [if_pos (by omega), Array.getElem?_toList, row_get _ _ _ hi hj] at h3
      exact h3
    exact ⟨hg 0 (by decide), hg 1 (by decide), hg 2 (by decide), hg 3 (by decide), hg 4 (by decide), hg 5 (by decide)⟩
theorem holdIndex (b cap n i : Nat) (hi : i < n) (kk : IntKind) (W : World) : (Instr.indexAt 29 (.slice (some ⟨b, 0, none⟩) n cap) (.int kk i)).run Try.prog W = .ok (.pointer (some ⟨b, i * 6, none⟩)) W := by
  simp [Instr.indexAt, asIntOf, run_underlying Try.underlying29, Try.sizeOf32, hi, addr_add]
def AloneI (w1 : World) (va : Value) (n : Nat) (m : Nat) (ρ : Env) (w' : World) : Prop :=
  ∃ i : Nat, m = n - i ∧ i ≤ n ∧ ρ 6 = va ∧ ρ 7 = .int .i64 i ∧ Upd noB w1 w'
def AloneJ (w1 : World) (va : Value) (n i : Nat) (m : Nat) (ρ : Env) (w' : World) : Prop :=
  ∃ k : Nat, m = n - k ∧ k ≤ n ∧ ρ 6 = va ∧ ρ 7 = .int .i64 i ∧ ρ 8 = .int .i64 k ∧ Upd noB w1 w'
set_option maxHeartbeats 4000000 in
theorem holdAlone_any {vl : Value} {l : List ActV} (hl : RowAt w0 7 vl l.length (l.flatMap ActV.row)) (hok : ∀ a, a ∈ l → a.ok) (hlen : l.length ≤ 9223372036854775807) :
    CallP Try.prog 4 #[vl] w0 (fun r w' => r = .bool true ∧ Upd noB w0 w') := by
  have I := inv_play hok
  refine call_den (args := [_]) Try.func4 rfl rfl (by simp [Try.ntmps4]) ?_
  simp [go_sem]
  refine CallP.mono (played_any hl hok hlen) ?_
  rintro r w1 ⟨hb, mb, rb, E, v, rfl, R⟩
  simp [go_sem]
  refine CallP.mono (all_rel R (by omega)) ?_
  rintro va w2 ⟨u2, own2⟩
  have R2 := R.keep0 u2
  have hLl : (playL l).length ≤ 60 := R.len
  obtain ⟨pa, ca, rfl⟩ := (RowAt.of_own own2).len
  generalize playL l = L at *
  simp [go_sem]
  refine den_loop (AloneI w2 (.slice pa L.length ca) L.length) L.length ?_ ?_
  · exact ⟨0, rfl, Nat.zero_le _, by simp [go_sem], by simp [go_sem], Upd.refl _ _⟩
  · rintro m ρ w' ⟨i, rfl, hi, h6, h7, hu⟩
    by_cases hlt : i < L.length
    · obtain ⟨b, cap, c, hv, hbb, hc⟩ := own_read own2 (by omega)
      injection hv with hp _ hcap
      subst hp hcap
      have hbw := hu.get hbb (by simp [noB])
      obtain ⟨i0, i1, i2, i3, i4, i5⟩ := hc i hlt
      have hx := I.ok L[i] (List.getElem_mem hlt)
      have hl3 : ¬ 3 < L[i].level := by have := hx.2.1; omega
      have hwri : IntKind.i64.wrap ((i : Int) + 1) = ((i + 1 : Nat) : Int) := wrap64_id (by omega) (by omega)
      have hidx := fun kk W => holdIndex b ca L.length i hlt kk W
      cases hbrk : L[i].brk with
      | false =>
        rw [hbrk] at i3
        simp [go_sem, h6, h7, hlt]
        refine draw_script [.pure 0, .pure 1, .one 2, .pure 3, .one 4, .one 5, .pure 6, .pure 7, .pure 8, .one 9, .pure 10, .one 11, .pure 12, .pure 13, .pure 14, .pure 18, .pure 19, .still [15, 16, 17, 20, 21, 22], .one 23, .one 24, .one 25] (by kernel_rfl) (by kernel_rfl) (by kernel_rfl) ?_
        simp [go_sem, h6, h7, hlt, hidx, hbw, i2, hl3, i3]
        refine den_loop (AloneJ w2 (.slice (some ⟨b, 0, none⟩) L.length ca) L.length i) L.length ?_ ?_
        · exact ⟨0, rfl, Nat.zero_le _, by simp [go_sem, h6], by simp [go_sem, h7], by simp [go_sem], hu.drew⟩
        · rintro m ρ3 w5 ⟨k, rfl, hk, g6, g7, g8, hu5⟩
          by_cases hltk : k < L.length
          · have hbw5 := hu5.get hbb (by simp [noB])
            obtain ⟨k0, k1, k2, k3, k4, k5⟩ := hc k hltk
            have hidk := fun kk W => holdIndex b ca L.length k hltk kk W
            have hwrk : IntKind.i64.wrap ((k : Int) + 1) = ((k + 1 : Nat) : Int) := wrap64_id (by omega) (by omega)
            have fin : ∀ (ρ' : Env) , ρ' 6 = .slice (some ⟨b, 0, none⟩) L.length ca → ρ' 7 = .int .i64 i → ρ' 8 = .int .i64 (IntKind.i64.wrap ((k : Int) + 1)) → ∃ m', m' < L.length - k ∧ AloneJ w2 (.slice (some ⟨b, 0, none⟩) L.length ca) L.length i m' ρ' w5.drew := by
              intro ρ' e6 e7 e8
              exact ⟨L.length - (k + 1), by omega, k + 1, rfl, by omega, e6, e7, by rw [e8, hwrk], hu5.drew⟩
            by_cases hki : k = i
            · subst hki
              simp [go_sem, g6, g7, g8, hltk]
              refine draw_script [.pure 0, .pure 1, .one 2, .pure 3, .pure 4, .pure 5, .pure 9, .pure 10, .still [6, 7, 8, 11, 12, 13], .one 14, .one 15, .pure 16, .pure 17, .pure 18, .one 19, .pure 20, .one 21, .one 22, .one 23, .pure 24, .pure 25, .pure 26, .one 27, .pure 28, .one 29, .one 30, .one 31] (by kernel_rfl) (by kernel_rfl) (by kernel_rfl) ?_
              simp [go_sem, g6, g7, g8, hltk, hidk, hbw5]
              apply fin <;> simp [go_sem, g6, g7, g8]
            · have hki' : ¬ (k : Int) = i := by omega
              by_cases hnode : L[k].node = L[i].node
              · by_cases hl1 : 1 < L[i].level
                · have hne : L[i].opn ≠ L[k].opn := by
                    intro e
                    rcases Nat.lt_or_ge i k with h | h
                    · have := List.pairwise_iff_getElem.1 I.srt i k hlt hltk h; omega
                    · have := List.pairwise_iff_getElem.1 I.srt k i hltk hlt (by omega); omega
                  have hz := I.alone L[i] (List.getElem_mem hlt) L[k] (List.getElem_mem hltk) hne hnode.symm hl1
                  simp [go_sem, g6, g7, g8, hltk]
                  refine draw_script [.pure 0, .pure 1, .one 2, .pure 3, .pure 4, .pure 5, .pure 9, .pure 10, .still [6, 7, 8, 11, 12, 13], .one 14, .one 15, .pure 16, .pure 17, .pure 18, .one 19, .pure 20, .one 21, .one 22, .one 23, .pure 24, .pure 25, .pure 26, .one 27, .pure 28, .one 29, .one 30, .one 31] (by kernel_rfl) (by kernel_rfl) (by kernel_rfl) ?_
                  simp [go_sem, g6, g7, g8, hltk, hidk, hidx, hbw5, hki', k0, i0, hnode, i2, hl1, k2, hz]
                  apply fin <;> simp [go_sem, g6, g7, g8]
                · simp [go_sem, g6, g7, g8, hltk]
                  refine draw_script [.pure 0, .pure 1, .one 2, .pure 3, .pure 4, .pure 5, .pure 9, .pure 10, .still [6, 7, 8, 11, 12, 13], .one 14, .one 15, .pure 16, .pure 17, .pure 18, .one 19, .pure 20, .one 21, .one 22, .one 23, .pure 24, .pure 25, .pure 26, .one 27, .pure 28, .one 29, .one 30, .one 31] (by kernel_rfl) (by kernel_rfl) (by kernel_rfl) ?_
                  simp [go_sem, g6, g7, g8, hltk, hidk, hidx, hbw5, hki', k0, i0, hnode, i2, hl1, k2]
                  apply fin <;> simp [go_sem, g6, g7, g8]
              · simp [go_sem, g6, g7, g8, hltk]
                refine draw_script [.pure 0, .pure 1, .one 2, .pure 3, .pure 4, .pure 5, .pure 9, .pure 10, .still [6, 7, 8, 11, 12, 13], .one 14, .one 15, .pure 16, .pure 17, .pure 18, .one 19, .pure 20, .one 21, .one 22, .one 23, .pure 24, .pure 25, .pure 26, .one 27, .pure 28, .one 29, .one 30, .one 31] (by kernel_rfl) (by kernel_rfl) (by kernel_rfl) ?_
                simp [go_sem, g6, g7, g8, hltk, hidk, hidx, hbw5, hki', k0, i0, hnode]
                apply fin <;> simp [go_sem, g6, g7, g8]
          · have hk' : k = L.length := by omega
            subst hk'
            simp [go_sem, g6, g7, g8]
            exact ⟨L.length - (i + 1), by omega, i + 1, rfl, by omega, by simp [go_sem, g6], by simp [go_sem, hwri], hu5⟩
      | true =>
        rw [hbrk] at i3
        have hto : ¬ L[i].level ≤ L[i].to := by have := hx.2.2 hbrk; omega
        simp [go_sem, h6, h7, hlt]
        refine draw_script [.pure 0, .pure 1, .one 2, .pure 3, .one 4, .one 5, .pure 6, .pure 7, .pure 8, .one 9, .pure 10, .one 11, .pure 12, .pure 13, .pure 14, .pure 18, .pure 19, .still [15, 16, 17, 20, 21, 22], .one 23, .one 24, .one 25] (by kernel_rfl) (by kernel_rfl) (by kernel_rfl) ?_
        simp [go_sem, h6, h7, hlt, hidx, hbw, i2, hl3, i3, i4, hto]
        refine den_loop (AloneJ w2 (.slice (some ⟨b, 0, none⟩) L.length ca) L.length i) L.length ?_ ?_
        · exact ⟨0, rfl, Nat.zero_le _, by simp [go_sem, h6], by simp [go_sem, h7], by simp [go_sem], hu.drew⟩
        · rintro m ρ3 w5 ⟨k, rfl, hk, g6, g7, g8, hu5⟩
          by_cases hltk : k < L.length
          · have hbw5 := hu5.get hbb (by simp [noB])
            obtain ⟨k0, k1, k2, k3, k4, k5⟩ := hc k hltk
            have hidk := fun kk W => holdIndex b ca L.length k hltk kk W
            have hwrk : IntKind.i64.wrap ((k : Int) + 1) = ((k + 1 : Nat) : Int) := wrap64_id (by omega) (by omega)
            have fin : ∀ (ρ' : Env) , ρ' 6 = .slice (some ⟨b, 0, none⟩) L.length ca → ρ' 7 = .int .i64 i → ρ' 8 = .int .i64 (IntKind.i64.wrap ((k : Int) + 1)) → ∃ m', m' < L.length - k ∧ AloneJ w2 (.slice (some ⟨b, 0, none⟩) L.length ca) L.length i m' ρ' w5.drew := by
              intro ρ' e6 e7 e8
              exact ⟨L.length - (k + 1), by omega, k + 1, rfl, by omega, e6, e7, by rw [e8, hwrk], hu5.drew⟩
            by_cases hki : k = i
            · subst hki
              simp [go_sem, g6, g7, g8, hltk]
              refine draw_script [.pure 0, .pure 1, .one 2, .pure 3, .pure 4, .pure 5, .pure 9, .pure 10, .still [6, 7, 8, 11, 12, 13], .one 14, .one 15, .pure 16, .pure 17, .pure 18, .one 19, .pure 20, .one 21, .one 22, .one 23, .pure 24, .pure 25, .pure 26, .one 27, .pure 28, .one 29, .one 30, .one 31] (by kernel_rfl) (by kernel_rfl) (by kernel_rfl) ?_
              simp [go_sem, g6, g7, g8, hltk, hidk, hbw5]
              apply fin <;> simp [go_sem, g6, g7, g8]
            · have hki' : ¬ (k : Int) = i := by omega
              by_cases hnode : L[k].node = L[i].node
              · by_cases hl1 : 1 < L[i].level
                · have hne : L[i].opn ≠ L[k].opn := by
                    intro e
                    rcases Nat.lt_or_ge i k with h | h
                    · have := List.pairwise_iff_getElem.1 I.srt i k hlt hltk h; omega
                    · have := List.pairwise_iff_getElem.1 I.srt k i hltk hlt (by omega); omega
                  have hz := I.alone L[i] (List.getElem_mem hlt) L[k] (List.getElem_mem hltk) hne hnode.symm hl1
                  simp [go_sem, g6, g7, g8, hltk]
                  refine draw_script [.pure 0, .pure 1, .one 2, .pure 3, .pure 4, .pure 5, .pure 9, .pure 10, .still [6, 7, 8, 11, 12, 13], .one 14, .one 15, .pure 16, .pure 17, .pure 18, .one 19, .pure 20, .one 21, .one 22, .one 23, .pure 24, .pure 25, .pure 26, .one 27, .pure 28, .one 29, .one 30, .one 31] (by kernel_rfl) (by kernel_rfl) (by kernel_rfl) ?_
                  simp [go_sem, g6, g7, g8, hltk, hidk, hidx, hbw5, hki', k0, i0, hnode, i2, hl1, k2, hz]
                  apply fin <;> simp [go_sem, g6, g7, g8]
                · simp [go_sem, g6, g7, g8, hltk]
                  refine draw_script [.pure 0, .pure 1, .one 2, .pure 3, .pure 4, .pure 5, .pure 9, .pure 10, .still [6, 7, 8, 11, 12, 13], .one 14, .one 15, .pure 16, .pure 17, .pure 18, .one 19, .pure 20, .one 21, .one 22, .one 23, .pure 24, .pure 25, .pure 26, .one 27, .pure 28, .one 29, .one 30, .one 31] (by kernel_rfl) (by kernel_rfl) (by kernel_rfl) ?_
                  simp [go_sem, g6, g7, g8, hltk, hidk, hidx, hbw5, hki', k0, i0, hnode, i2, hl1, k2]
                  apply fin <;> simp [go_sem, g6, g7, g8]
              · simp [go_sem, g6, g7, g8, hltk]
                refine draw_script [.pure 0, .pure 1, .one 2, .pure 3, .pure 4, .pure 5, .pure 9, .pure 10, .still [6, 7, 8, 11, 12, 13], .one 14, .one 15, .pure 16, .pure 17, .pure 18, .one 19, .pure 20, .one 21, .one 22, .one 23, .pure 24, .pure 25, .pure 26, .one 27, .pure 28, .one 29, .one 30, .one 31] (by kernel_rfl) (by kernel_rfl) (by kernel_rfl) ?_
                simp [go_sem, g6, g7, g8, hltk, hidk, hidx, hbw5, hki', k0, i0, hnode]
                apply fin <;> simp [go_sem, g6, g7, g8]
          · have hk' : k = L.length := by omega
            subst hk'
            simp [go_sem, g6, g7, g8]
            exact ⟨L.length - (i + 1), by omega, i + 1, rfl, by omega, by simp [go_sem, g6], by simp [go_sem, hwri], hu5⟩
    · have hi' : i = L.length := by omega
      subst hi'
      simp [go_sem, h6, h7]
      refine CallP.mono (works_any w') ?_
      rintro r w3 ⟨rfl, u3⟩
      simp [go_sem]
      exact (R2.u.trans hu).trans u3
end Go.Proofs.Ytnelmicecaggoaa
