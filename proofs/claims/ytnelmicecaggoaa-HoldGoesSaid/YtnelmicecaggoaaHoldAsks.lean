/-
  What is asked of both.
-/
import Derived.Test.YtnelmicecaggoaaHoldQ
namespace Go.Proofs.Ytnelmicecaggoaa
open Go.Eng
set_option linter.unusedSimpArgs false
set_option linter.unusedVariables false
set_option maxRecDepth 100000
variable {w0 w : World} {hb mb rb : Nat} {E : List (HV × Nat)} {v : Value} {L : List HV} {n : Nat}
def mustL (L : List HV) (node o why : Int) : List HV := if why = 1 ∨ why = 2 ∨ why = 3 then L.filter (mustP node o (toOf why)) else []
theorem row_nil (w : World) (size : Nat) : RowAt w size (.slice none 0 0) 0 [] := ⟨by simp, Or.inl ⟨none, 0, rfl, rfl⟩⟩
theorem filt_rel {F : List (HV × Nat)} {p : HV → Bool} (R : Rel w0 w hb mb E rb v L n) (hp : F.Perm (E.filter fun x => p x.1)) (hs : F.Pairwise (fun x y => x.1.opn < y.1.opn)) : F.map (·.1) = L.filter p := by
  refine srt_perm ?_ (List.pairwise_map.2 hs) (List.Pairwise.filter _ R.srt)
  have h1 := hp.map (fun x : HV × Nat => x.1)
  refine h1.trans ?_
  have h2 : (E.filter fun x => p x.1).map (·.1) = (E.map (·.1)).filter p := by rw [List.filter_map]; rfl
  rw [h2]
  exact R.pm.filter _
theorem must_rel (R : Rel w0 w hb mb E rb v L n) (hn : n ≤ 1000) (node o why : Int) : CallP Try.prog 14 #[ptrOf hb, .int .i64 node, .int .i64 o, .int .u8 why] w (fun r w' => Upd noB w w' ∧
    w'.ownsRow w.heap.size 40 2 r (mustL L node o why).length ((mustL L node o why).flatMap (brkL (toOf why)))) := by
  unfold mustL
  by_cases hw : why = 1 ∨ why = 2 ∨ why = 3
  · rw [if_pos hw]
    refine CallP.mono (must_any R.h R.hO (by rw [R.elen]; have := R.len; omega) node o why hw) ?_
    rintro r w' ⟨hu, F, hp, hs, own⟩
    have e := filt_rel R hp hs
    rw [← e, List.length_map, List.flatMap_map]
    exact ⟨hu, own⟩
  · rw [if_neg hw]
    refine CallP.mono (must_other R.h node o why hw) ?_
    rintro r w' ⟨rfl, hu⟩
    exact ⟨hu, World.ownsRow_nil _ _ _ _⟩
theorem refMust_rel (R : Rel w0 w hb mb E rb v L n) (hn : n ≤ 1000) (node o why : Int) : CallP Try.prog 22 #[ptrOf rb, .int .i64 node, .int .i64 o, .int .u8 why] w (fun r w' => Upd noB w w' ∧
    RowAt w' 2 r (mustL L node o why).length ((mustL L node o why).flatMap (brkL (toOf why)))) := by
  unfold mustL
  by_cases hw : why = 1 ∨ why = 2 ∨ why = 3
  · rw [if_pos hw]
    refine CallP.mono (refMust_any R.r (by have := R.len; omega) node o why hw) ?_
    rintro r w' ⟨hu, own⟩
    exact ⟨hu, RowAt.of_own own⟩
  · rw [if_neg hw]
    refine CallP.mono (refMust_other _ node o why hw) ?_
    rintro r w' ⟨rfl, rfl⟩
    exact ⟨Upd.refl _ _, row_nil _ _⟩
theorem late_rel (R : Rel w0 w hb mb E rb v L n) (hn : n ≤ 1000) (tick : Int) : CallP Try.prog 24 #[ptrOf hb, .int .i64 tick] w (fun r w' => Upd noB w w' ∧
    w'.ownsRow w.heap.size 3 1 r (L.filter (lateP tick)).length ((L.filter (lateP tick)).map opnL)) := by
  refine CallP.mono (late_any R.h R.hO (by rw [R.elen]; have := R.len; omega) tick) ?_
  rintro r w' ⟨hu, F, hp, hs, own⟩
  have e := filt_rel R hp hs
  rw [← e, List.length_map, List.map_map]
  exact ⟨hu, own⟩
theorem level_rel (R : Rel w0 w hb mb E rb v L n) (o : Int) : levelE E o = levelL L o := by
  unfold levelE levelL
  rw [← R.find o]
  cases findE E o <;> rfl
set_option maxHeartbeats 4000000 in
theorem holdAsks_any {vl : Value} {l : List ActV} (hl : RowAt w0 7 vl l.length (l.flatMap ActV.row)) (hok : ∀ a, a ∈ l → a.ok) (hlen : l.length ≤ 9223372036854775807) (node o why tick : Int) :
    CallP Try.prog 8 #[vl, .int .i64 node, .int .i64 o, .int .u8 why, .int .i64 tick] w0 (fun r w' => r = .bool true ∧ Upd noB w0 w') := by
  refine call_den (args := [_, _, _, _, _]) Try.func8 rfl rfl (by simp [Try.ntmps8]) ?_
  simp [go_sem]
  refine CallP.mono (played_any hl hok hlen) ?_
  rintro r w1 ⟨hb, mb, rb, E, v, rfl, R⟩
  simp [go_sem]
  refine CallP.mono (must_rel R (by omega) node o why) ?_
  rintro r1 w2 ⟨u2, own2⟩
  have R2 := R.keep0 u2
  simp [go_sem]
  refine CallP.mono (refMust_rel R2 (by omega) node o why) ?_
  rintro r2 w3 ⟨u3, row3⟩
  have R3 := R2.keep0 u3
  simp [go_sem]
  have hml : (mustL (playL l) node o why).length ≤ 1048576 := by
    unfold mustL
    split
    · have := List.length_filter_le (mustP node o (toOf why)) (playL l); have := R.len; omega
    · simp
  refine CallP.mono (breaks_same ((RowAt.of_own own2).keep u3 (by simp [noB])) row3 hml) ?_
  rintro r w4 ⟨rfl, u4⟩
  have R4 := R3.keep0 u4
  simp [go_sem]
  refine CallP.mono (when_any tick w4) ?_
  rintro r w5 ⟨rfl, rfl⟩
  simp [go_sem]
  refine CallP.mono (late_rel R4 (by omega) (whenI tick)) ?_
  rintro r3 w6 ⟨u6, own6⟩
  have R6 := R4.keep0 u6
  simp [go_sem]
  refine CallP.mono (when_any tick w6) ?_
  rintro r w7 ⟨rfl, rfl⟩
  simp [go_sem]
  refine CallP.mono (refLate_any R6.r (by have := R.len; omega) (whenI tick)) ?_
  rintro r4 w8 ⟨u8, own8⟩
  have R8 := R6.keep0 u8
  simp [go_sem]
  refine CallP.mono (ints_same ((RowAt.of_own own6).keep u8 (by simp [noB])) (RowAt.of_own own8) (by have := List.length_filter_le (lateP (whenI tick)) (playL l); have := R.len; omega)) ?_
  rintro r w9 ⟨rfl, u9⟩
  have R9 := R8.keep0 u9
  simp [go_sem]
  refine CallP.mono (level_any R9.h o) ?_
  rintro r w10 ⟨rfl, u10⟩
  have R10 := R9.keep0 u10
  rw [level_rel R9]
  simp [go_sem]
  refine CallP.mono (refLevel_any R10.r R10.srt (by have := R.len; omega) o) ?_
  rintro r w11 ⟨rfl, rfl⟩
  simp [go_sem]
  refine CallP.mono (works_any _) ?_
  rintro r w12 ⟨rfl, u12⟩
  simp [go_sem]
  exact R10.u.trans u12
end Go.Proofs.Ytnelmicecaggoaa
