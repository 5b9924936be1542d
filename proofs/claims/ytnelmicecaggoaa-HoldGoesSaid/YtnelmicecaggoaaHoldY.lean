/-
  One act on both: the same answer, and the relation stays.
-/
import Derived.Test.YtnelmicecaggoaaHoldX
namespace Go.Proofs.Ytnelmicecaggoaa
open Go.Eng
set_option linter.unusedSimpArgs false
set_option linter.unusedVariables false
set_option maxRecDepth 100000
variable {w0 w : World} {hb mb rb : Nat} {E : List (HV × Nat)} {v : Value} {L : List HV} {n : Nat}
theorem break_rel (R : Rel w0 w hb mb E rb v L n) (o to tick : Int) : (breakE E o to tick).1 = (breakL L o to tick).1 ∧ (breakE E o to tick).2.1 = (breakL L o to tick).2.1 ∧ ((breakE E o to tick).2.2.map (·.1)).Perm (breakL L o to tick).2.2 := by
  have hf := R.find o
  unfold breakE breakL
  cases hE : findE E o with
  | none =>
    rw [hE] at hf
    rw [← hf]
    exact ⟨rfl, rfl, R.pm⟩
  | some x =>
    rw [hE] at hf
    rw [← hf]
    simp only [Option.map_some]
    by_cases h1 : x.1.level ≤ to
    · simp only [h1, if_true]; exact ⟨trivial, trivial, R.pm⟩
    · cases h2 : x.1.brk <;> simp only [h1, if_false, if_true, Bool.false_eq_true] <;> refine ⟨trivial, trivial, ?_⟩ <;> rw [updE_map] <;> exact R.pm.map _
theorem ack_rel (R : Rel w0 w hb mb E rb v L n) (o lv : Int) : (ackE E o lv).1 = (ackL L o lv).1 ∧ ((ackE E o lv).2.map (·.1)).Perm (ackL L o lv).2 := by
  have hf := R.find o
  unfold ackE ackL
  cases hE : findE E o with
  | none =>
    rw [hE] at hf
    rw [← hf]
    exact ⟨rfl, R.pm⟩
  | some x =>
    rw [hE] at hf
    rw [← hf]
    simp only [Option.map_some]
    by_cases h1 : x.1.to < lv
    · cases h2 : x.1.brk <;> simp only [h1, if_false, if_true, Bool.false_eq_true] <;> exact ⟨trivial, R.pm⟩
    · cases h2 : x.1.brk <;> simp only [h1, if_false, if_true, Bool.false_eq_true]
      · exact ⟨trivial, R.pm⟩
      · refine ⟨trivial, ?_⟩
        rw [updE_map]
        exact R.pm.map _
theorem dropE_map (E : List (HV × Nat)) (k : Int) : (dropE E k).map (·.1) = dropL (E.map (·.1)) k := by
  unfold dropE dropL
  rw [List.filter_map]
  rfl
theorem greatE_map (E : List (HV × Nat)) (node : Int) : greatE E node = greatL (E.map (·.1)) node := by
  unfold greatE greatL
  rw [List.foldl_map]
theorem greatL_perm {A B : List HV} (node : Int) (h : A.Perm B) : greatL A node = greatL B node := by
  unfold greatL
  refine h.foldl_eq' ?_ 0
  intro x _ y _ z
  by_cases h1 : x.node = node <;> by_cases h2 : y.node = node <;> simp only [h1, h2, if_true, if_false] <;> omega
theorem give_lv (R : Rel w0 w hb mb E rb v L n) (node want others : Int) (locked : Bool) (hw : 0 ≤ want) : giveLevel E node want others locked = giveLv L node want others locked := by
  have hg : greatE E node = greatL L node := (greatE_map E node).trans (greatL_perm node R.pm)
  unfold giveLevel giveLv
  rw [hg]
  cases locked
  · simp only [Bool.false_eq_true, if_false]
    by_cases h1 : others = 0 ∧ greatL L node = 0
    · rw [if_pos h1, if_pos h1]
    · rw [if_neg h1, if_neg h1]
      by_cases h2 : greatL L node < 2
      · rw [if_pos h2]
        by_cases h3 : 1 ≤ want
        · rw [if_pos ⟨h3, by omega⟩]; omega
        · rw [if_neg (fun h => h3 h.1)]; omega
      · rw [if_neg h2, if_neg (fun h => by omega)]
  · rfl
theorem insL_perm (L : List HV) (o : Int) (x : HV) : (insL L o x).Perm (x :: L) := by
  unfold insL
  refine List.perm_middle.trans (List.Perm.cons x ?_)
  have h := List.filter_append_perm (fun y : HV => decide (y.opn ≤ o)) L
  refine List.Perm.trans ?_ h
  refine List.Perm.of_eq ?_
  congr 1
  refine List.filter_congr fun y _ => ?_
  by_cases h : y.opn ≤ o
  · have : ¬ o < y.opn := by omega
    simp [h, this]
  · have : o < y.opn := by omega
    simp [h, this]
theorem insL_srt {L : List HV} (hs : Srt L) (x : HV) (hno : ∀ y, y ∈ L → y.opn ≠ x.opn) : Srt (insL L x.opn x) := by
  unfold insL Srt
  rw [List.pairwise_append]
  refine ⟨List.Pairwise.filter _ hs, ?_, ?_⟩
  · rw [List.pairwise_cons]
    refine ⟨fun y hy => ?_, List.Pairwise.filter _ hs⟩
    have := (List.mem_filter.1 hy).2
    simpa using this
  · intro y hy z hz
    have h1 := List.mem_filter.1 hy
    have h2 : y.opn ≤ x.opn := by simpa using h1.2
    have h3 := hno y h1.1
    rcases List.mem_cons.1 hz with rfl | hz
    · omega
    · have h4 : x.opn < z.opn := by simpa using (List.mem_filter.1 hz).2
      omega
theorem insL_len_eq (L : List HV) (o : Int) (x : HV) : (insL L o x).length = L.length + 1 := by
  rw [(insL_perm L o x).length_eq]; rfl
theorem updL_mem {L : List HV} {k : Int} {h x : HV} (hx : x ∈ updL L k h) : x ∈ L ∨ x = h := by
  obtain ⟨y, hy, rfl⟩ := List.mem_map.1 hx
  by_cases e : y.opn == k
  · rw [if_pos e]; exact Or.inr rfl
  · rw [if_neg e]; exact Or.inl hy
theorem findL_some {L : List HV} {o : Int} {x : HV} (h : findL L o = some x) : x ∈ L ∧ x.opn = o := by
  refine ⟨List.mem_of_find?_eq_some h, ?_⟩
  have := List.find?_some h
  simpa using this
/-- what an act makes of the document's list -/
structure ActV where
  act : Int
  node : Int
  opn : Int
  level : Int
  others : Int
  locked : Bool
  tick : Int
def ActV.cells (a : ActV) : Array Value := #[.int .i64 a.act, .int .i64 a.node, .int .i64 a.opn, .int .u8 a.level, .int .i64 a.others, .bool a.locked, .int .i64 a.tick]
def ActV.ok (a : ActV) : Prop := a.opn < 9223372036854775808 ∧ 0 ≤ a.level
def badG (node o want others : Int) : Prop := 3 < want ∨ node < 1 ∨ o < 1 ∨ others < 0
instance (node o want others : Int) : Decidable (badG node o want others) := inferInstanceAs (Decidable (_ ∨ _ ∨ _ ∨ _))
def giveL (L : List HV) (node o want others : Int) (locked : Bool) : List HV :=
  if badG node o want others then L else if (findL L o).isSome then L else insL L o ⟨node, o, giveLv L node want others locked, false, 0, 0⟩
def actL (a : ActV) (L : List HV) : List HV :=
  if a.act = 1 then giveL L a.node a.opn a.level a.others a.locked
  else if a.act = 2 then (breakL L a.opn a.level (whenI a.tick)).2.2
  else if a.act = 3 then (ackL L a.opn a.level).2
  else if a.act = 4 then dropL L a.opn
  else L
theorem breakL_props {L : List HV} (hs : Srt L) (rg : ∀ x, x ∈ L → 1 ≤ x.opn ∧ x.opn < 9223372036854775808) (o to tick : Int) : Srt (breakL L o to tick).2.2 ∧ (∀ x, x ∈ (breakL L o to tick).2.2 → 1 ≤ x.opn ∧ x.opn < 9223372036854775808) ∧ (breakL L o to tick).2.2.length = L.length := by
  unfold breakL
  cases hf : findL L o with
  | none => exact ⟨hs, rg, rfl⟩
  | some x =>
    obtain ⟨hx, ho⟩ := findL_some hf
    simp only
    split
    · exact ⟨hs, rg, rfl⟩
    · split
      · refine ⟨hs.upd o _ ho, fun y hy => ?_, by simp [updL]⟩
        rcases updL_mem hy with h | rfl
        · exact rg y h
        · exact rg x hx
      · refine ⟨hs.upd o _ ho, fun y hy => ?_, by simp [updL]⟩
        rcases updL_mem hy with h | rfl
        · exact rg y h
        · exact rg x hx
theorem ackL_props {L : List HV} (hs : Srt L) (rg : ∀ x, x ∈ L → 1 ≤ x.opn ∧ x.opn < 9223372036854775808) (o lv : Int) : Srt (ackL L o lv).2 ∧ (∀ x, x ∈ (ackL L o lv).2 → 1 ≤ x.opn ∧ x.opn < 9223372036854775808) ∧ (ackL L o lv).2.length = L.length := by
  unfold ackL
  cases hf : findL L o with
  | none => exact ⟨hs, rg, rfl⟩
  | some x =>
    obtain ⟨hx, ho⟩ := findL_some hf
    simp only
    split
    · split
      · exact ⟨hs, rg, rfl⟩
      · refine ⟨hs.upd o _ rfl, fun y hy => ?_, by simp [updL]⟩
        rcases updL_mem hy with h | rfl
        · exact rg y h
        · simp only; rw [← ho]; exact rg x hx
    · exact ⟨hs, rg, rfl⟩
end Go.Proofs.Ytnelmicecaggoaa
