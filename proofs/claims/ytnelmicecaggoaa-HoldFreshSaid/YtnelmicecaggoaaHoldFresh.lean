/-
  What is answered is new memory: it is written over, and nothing of the holds turns.
-/
import Derived.Test.YtnelmicecaggoaaHoldAsks
namespace Go.Proofs.Ytnelmicecaggoaa
open Go.Eng
set_option linter.unusedSimpArgs false
set_option linter.unusedVariables false
set_option maxRecDepth 100000
variable {w0 w : World} {hb mb rb : Nat} {E : List (HV × Nat)} {v : Value} {L : List HV} {n : Nat}
/-- an own row, whatever it holds by now -/
def OwnAny (w : World) (base : Nat) (e : TypeId) (size : Nat) (v : Value) (n : Nat) : Prop :=
  (v = .slice none 0 0 ∧ n = 0) ∨ ∃ b cap c, v = .slice (some ⟨b, 0, none⟩) n cap ∧ base ≤ b ∧ b < w.heap.size ∧ w.heap[b]? = some (.cells c e (0, 0)) ∧ n * size ≤ c.size
theorem OwnAny.of {w : World} {base size n : Nat} {e : TypeId} {v : Value} {xs : List Value} (h : w.ownsRow base e size v n xs) : OwnAny w base e size v n := by
  rcases h.2 with h1 | ⟨b, cap, cur, rfl, hbase, hb, hnc, hcap, hcs, htake⟩
  · exact Or.inl h1
  · have : n * size ≤ cap * size := Nat.mul_le_mul_right _ hnc
    exact Or.inr ⟨b, cap, cur, rfl, hbase, (old_ne hb).1, hb, by omega⟩
def FreshI (w1 : World) (base : Nat) (e : TypeId) (size : Nat) (vs : Value) (n : Nat) (slot cnt : Nat) (keep : List (Nat × Value)) (m : Nat) (ρ : Env) (w' : World) : Prop :=
  ∃ k : Nat, m = n - k ∧ k ≤ n ∧ ρ slot = vs ∧ ρ cnt = .int .i64 k ∧ (∀ x, x ∈ keep → ρ x.1 = x.2) ∧ Upd noB w1 w' ∧ OwnAny w' base e size vs n
set_option maxHeartbeats 4000000 in
theorem holdFresh_any {vl : Value} {l : List ActV} (hl : RowAt w0 7 vl l.length (l.flatMap ActV.row)) (hok : ∀ a, a ∈ l → a.ok) (hlen : l.length ≤ 9223372036854775807) (node : Int) :
    CallP Try.prog 6 #[vl, .int .i64 node] w0 (fun r w' => r = .bool true ∧ Upd noB w0 w') := by
  refine call_den (args := [_, _]) Try.func6 rfl rfl (by simp [Try.ntmps6]) ?_
  simp [go_sem]
  refine CallP.mono (played_any hl hok hlen) ?_
  rintro r w1 ⟨hb, mb, rb, E, v, rfl, R⟩
  simp [go_sem]
  refine CallP.mono (all_rel R (by omega)) ?_
  rintro r1 w2 ⟨u2, own2⟩
  have hLl : (playL l).length ≤ 60 := R.len
  have o2 := OwnAny.of own2
  obtain ⟨pa, ca, rfl⟩ := (RowAt.of_own own2).len
  generalize (playL l).length = na at *
  simp [go_sem]
  refine den_loop (FreshI w1 w1.heap.size 32 6 (.slice pa na ca) na 8 9 [(5, ptrOf hb), (6, ptrOf rb), (7, .bool true), (1, .int .i64 node)]) na ?_ ?_
  · exact ⟨0, rfl, Nat.zero_le _, by simp [go_sem], by simp [go_sem], by simp [go_sem], u2, o2⟩
  · rintro m ρ w' ⟨k, rfl, hk, h8, h9, hkeep, hu, hown⟩
    simp at hkeep
    obtain ⟨h5, h6, h7, h1⟩ := hkeep
    by_cases hlt : k < na
    · rcases hown with ⟨_, h0⟩ | ⟨b, cap, c, hv, hbase, hbl, hbb, hsz⟩
      · omega
      · injection hv with hp _ hcap
        subst hp
        have hi : ∀ W kk, (Instr.indexAt 29 (.slice (some ⟨b, 0, none⟩) na ca) (.int kk k)).run Try.prog W = .ok (.pointer (some ⟨b, k * 6, none⟩)) W := by
          intro W kk
          simp [Instr.indexAt, asIntOf, run_underlying Try.underlying29, Try.sizeOf32, hlt, addr_add]
        have hz : k * 6 + 2 < c.size := by omega
        have hwr : IntKind.i64.wrap ((k : Int) + 1) = ((k + 1 : Nat) : Int) := wrap64_id (by omega) (by omega)
        simp [go_sem, h1, h5, h6, h7, h8, h9, hlt, hi, hbb, hz]
        refine ⟨na - (k + 1), by omega, k + 1, rfl, by omega, by simp [go_sem, h8], by simp [go_sem, hwr], by simp [go_sem, h1, h5, h6, h7], hu.setB _ _ (fun h => by omega), Or.inr ⟨b, ca, c.setIfInBounds (k * 6 + 2) (.int .u8 9), rfl, hbase, by simp [size_setB]; omega, by simp [go_sem, hbb], by simpa using hsz⟩⟩
    · have hk' : k = na := by omega
      subst hk'
      have R3 := R.keep0 hu
      simp [go_sem, h1, h5, h6, h7, h8, h9]
      refine CallP.mono (must_rel R3 (by omega) node 0 3) ?_
      rintro r4 w4 ⟨u4, own4⟩
      have hml : (mustL (playL l) node 0 3).length ≤ 60 := by
        unfold mustL
        rw [if_pos (by omega)]
        have := List.length_filter_le (mustP node 0 (toOf 3)) (playL l)
        have := R.len
        omega
      have o4 := OwnAny.of own4
      obtain ⟨pb, cb, rfl⟩ := (RowAt.of_own own4).len
      generalize (mustL (playL l) node 0 3).length = nb at *
      simp [go_sem, h1, h5, h6, h7, h8, h9]
      refine den_loop (FreshI w' w'.heap.size 40 2 (.slice pb nb cb) nb 10 11 [(5, ptrOf hb), (6, ptrOf rb), (7, .bool true), (1, .int .i64 node)]) nb ?_ ?_
      · exact ⟨0, rfl, Nat.zero_le _, by simp [go_sem], by simp [go_sem], by simp [go_sem, h1, h5, h6, h7], u4, o4⟩
      · rintro m ρ2 w5 ⟨j, rfl, hj, g10, g11, gkeep, hu5, hown5⟩
        simp at gkeep
        obtain ⟨g5, g6, g7, g1⟩ := gkeep
        by_cases hlt2 : j < nb
        · rcases hown5 with ⟨_, h0⟩ | ⟨b, cap, c, hv, hbase, hbl, hbb, hsz⟩
          · omega
          · injection hv with hp _ hcap
            subst hp
            have hi : ∀ W kk, (Instr.indexAt 34 (.slice (some ⟨b, 0, none⟩) nb cb) (.int kk j)).run Try.prog W = .ok (.pointer (some ⟨b, j * 2, none⟩)) W := by
              intro W kk
              simp [Instr.indexAt, asIntOf, run_underlying Try.underlying34, Try.sizeOf40, hlt2, addr_add]
            have hz : j * 2 + 1 < c.size := by omega
            have hwr : IntKind.i64.wrap ((j : Int) + 1) = ((j + 1 : Nat) : Int) := wrap64_id (by omega) (by omega)
            simp [go_sem, g1, g5, g6, g7, g10, g11, hlt2, hi, hbb, hz]
            refine ⟨nb - (j + 1), by omega, j + 1, rfl, by omega, by simp [go_sem, g10], by simp [go_sem, hwr], by simp [go_sem, g1, g5, g6, g7], hu5.setB _ _ (fun h => by omega), Or.inr ⟨b, cb, c.setIfInBounds (j * 2 + 1) (.int .u8 9), rfl, hbase, by simp [size_setB]; omega, by simp [go_sem, hbb], by simpa using hsz⟩⟩
        · have hj' : j = nb := by omega
          subst hj'
          have R5 := R3.keep0 hu5
          have Rd := R5.keep0 ((Upd.refl noB w5).drew)
          simp [go_sem, g1, g5, g6, g7, g10, g11]
          refine draw_script [.pure 0, .pure 1, .pure 2, .pure 4, .held [5, 6, 7] 3, .one 8, .one 9, .pure 10, .one 11, .one 12, .pure 13] (by kernel_rfl) (by kernel_rfl) (by kernel_rfl) ?_
          simp [go_sem, g1, g5, g6, g7, g10, g11]
          have hS : ∀ i : { W : World // RbS rb v W }, i.1.heap[rb]? = some (.cells #[v] 46 (0, 0)) := fun i => i.2
          haveI : Nonempty { W : World // RbS rb v W } := ⟨⟨w5.drew, Rd.r.rd⟩⟩
          refine opsPh_held _ _ (RbS rb v) Rd.r.rd ?_
          simp [go_sem, g1, g5, g6, g7, g10, g11, hS]
          refine CallP.mono (all_rel Rd (by omega)) ?_
          rintro r6 w6 ⟨u6, own6⟩
          have R6 := Rd.keep0 u6
          simp [go_sem, g1, g5, g6, g7, g10, g11]
          refine ⟨R6.r.rd, ?_⟩
          refine CallP.mono (holds_same (RowAt.of_own own6) (RowAt.of_own R6.r.own) (by have := R6.len; omega)) ?_
          rintro r w7 ⟨rfl, u7⟩
          have R7 := R6.keep0 u7
          simp [go_sem, g1, g5, g6, g7, g10, g11]
          refine CallP.mono (works_any w7) ?_
          rintro r w8 ⟨rfl, u8⟩
          simp [go_sem]
          exact R7.u.trans u8
end Go.Proofs.Ytnelmicecaggoaa
