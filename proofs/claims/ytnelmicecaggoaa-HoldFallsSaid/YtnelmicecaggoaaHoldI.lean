/-
  What holds of the document's list, whatever is done: the levels.
-/
import Derived.Test.YtnelmicecaggoaaHoldAsks
namespace Go.Proofs.Ytnelmicecaggoaa
open Go.Eng
set_option linter.unusedSimpArgs false
set_option linter.unusedVariables false
def OkH (x : HV) : Prop := 0 ≤ x.level ∧ x.level ≤ 3 ∧ (x.brk = true → 0 ≤ x.to ∧ x.to < x.level)
def AloneL (L : List HV) : Prop := ∀ x, x ∈ L → ∀ y, y ∈ L → x.opn ≠ y.opn → x.node = y.node → 1 < x.level → y.level = 0
structure InvL (L : List HV) : Prop where
  srt : Srt L
  ok : ∀ x, x ∈ L → OkH x
  alone : AloneL L
theorem great_ge (L : List HV) (node : Int) : 0 ≤ greatL L node ∧ ∀ x, x ∈ L → x.node = node → x.level ≤ greatL L node := by
  have key : ∀ (l : List HV) (a : Int), a ≤ l.foldl (fun a x => if x.node = node then max a x.level else a) a ∧ ∀ x, x ∈ l → x.node = node → x.level ≤ l.foldl (fun a x => if x.node = node then max a x.level else a) a := by
    intro l
    induction l with
    | nil => intro a; exact ⟨Int.le_refl _, fun x hx => by cases hx⟩
    | cons y r ih =>
      intro a
      simp only [List.foldl_cons]
      obtain ⟨h1, h2⟩ := ih (if y.node = node then max a y.level else a)
      refine ⟨?_, ?_⟩
      · refine Int.le_trans ?_ h1
        split <;> omega
      · intro x hx hn
        rcases List.mem_cons.1 hx with rfl | hx
        · rw [if_pos hn] at h1 ⊢
          omega
        · exact h2 x hx hn
  exact key L 0
theorem inv_upd {L : List HV} (I : InvL L) {o : Int} {x h : HV} (hx : findL L o = some x) (ho : h.opn = o) (hn : h.node = x.node) (hok : OkH h) (hle : h.level ≤ x.level) : InvL (updL L o h) := by
  obtain ⟨hxL, hxo⟩ := findL_some hx
  refine ⟨I.srt.upd o h ho, ?_, ?_⟩
  · intro y hy
    rcases updL_mem hy with h1 | rfl
    · exact I.ok y h1
    · exact hok
  · have back : ∀ y, y ∈ updL L o h → ∃ z, z ∈ L ∧ z.opn = y.opn ∧ z.node = y.node ∧ y.level ≤ z.level := by
      intro y hy
      rcases updL_mem hy with h1 | rfl
      · exact ⟨y, h1, rfl, rfl, Int.le_refl _⟩
      · exact ⟨x, hxL, hxo.trans ho.symm, hn.symm, hle⟩
    intro y hy z hz hne hnode hl
    obtain ⟨y', h1, h2, h3, h4⟩ := back y hy
    obtain ⟨z', g1, g2, g3, g4⟩ := back z hz
    have := I.alone y' h1 z' g1 (by omega) (by omega) (by omega)
    have h0 : 0 ≤ z.level := by
      rcases updL_mem hz with h5 | rfl
      · exact (I.ok z h5).1
      · exact hok.1
    omega
theorem inv_act {L : List HV} (I : InvL L) (a : ActV) (ha : a.ok) : InvL (actL a L) := by
  unfold actL
  split
  · unfold giveL
    split
    · exact I
    · rename_i hbad
      split
      · exact I
      · rename_i hf
        have hf' : findL L a.opn = none := by cases h : findL L a.opn <;> simp_all
        have hno : ∀ x, x ∈ L → x.opn ≠ a.opn := fun x hx => by have := List.find?_eq_none.1 hf' x hx; simpa using this
        have hw : a.level ≤ 3 := by unfold badG at hbad; omega
        have hw0 := ha.2
        obtain ⟨hg0, hg⟩ := great_ge L a.node
        have hlv : 0 ≤ giveLv L a.node a.level a.others a.locked ∧ giveLv L a.node a.level a.others a.locked ≤ 3 ∧ (giveLv L a.node a.level a.others a.locked = 0 ∨ greatL L a.node = 0 ∨ (giveLv L a.node a.level a.others a.locked = 1 ∧ greatL L a.node ≤ 1)) := by
          unfold giveLv
          split
          · omega
          · split
            · rename_i h; omega
            · split
              · rename_i h; omega
              · omega
        generalize giveLv L a.node a.level a.others a.locked = lv at *
        have hmem : ∀ y, y ∈ insL L a.opn ⟨a.node, a.opn, lv, false, 0, 0⟩ → y = ⟨a.node, a.opn, lv, false, 0, 0⟩ ∨ y ∈ L := fun y hy => List.mem_cons.1 ((insL_perm L a.opn _).mem_iff.1 hy)
        refine ⟨insL_srt I.srt ⟨a.node, a.opn, lv, false, 0, 0⟩ hno, ?_, ?_⟩
        · intro y hy
          rcases hmem y hy with rfl | h
          · exact ⟨hlv.1, hlv.2.1, fun h => by cases h⟩
          · exact I.ok y h
        · intro y hy z hz hne hnode hl
          rcases hmem y hy with rfl | h1
          · rcases hmem z hz with rfl | h2
            · exact absurd rfl hne
            · have := hg z h2 hnode.symm
              have h0 := (I.ok z h2).1
              simp only at hl
              omega
          · rcases hmem z hz with rfl | h2
            · have := hg y h1 hnode
              simp only
              omega
            · exact I.alone y h1 z h2 hne hnode hl
  · split
    · unfold breakL
      cases hf : findL L a.opn with
      | none => exact I
      | some x =>
        obtain ⟨hx, ho⟩ := findL_some hf
        have hok := I.ok x hx
        simp only
        split
        · exact I
        · rename_i hlv
          split
          · rename_i hb
            exact inv_upd I hf ho rfl ⟨hok.1, hok.2.1, fun _ => by have := hok.2.2 hb; have := ha.2; show 0 ≤ min x.to a.level ∧ min x.to a.level < x.level; omega⟩ (Int.le_refl _)
          · exact inv_upd I hf ho rfl ⟨hok.1, hok.2.1, fun _ => by have := ha.2; show 0 ≤ a.level ∧ a.level < x.level; omega⟩ (Int.le_refl _)
    · split
      · unfold ackL
        cases hf : findL L a.opn with
        | none => exact I
        | some x =>
          obtain ⟨hx, ho⟩ := findL_some hf
          have hok := I.ok x hx
          simp only
          split
          · rename_i hb
            have := hok.2.2 hb
            split
            · exact I
            · have h2 := ha.2
              exact inv_upd I hf rfl rfl ⟨h2, by show a.level ≤ 3; have := hok.2.1; omega, fun h => by cases h⟩ (by show a.level ≤ x.level; omega)
          · exact I
      · split
        · refine ⟨List.Pairwise.filter _ I.srt, fun x hx => I.ok x (List.mem_filter.1 hx).1, ?_⟩
          intro y hy z hz
          exact I.alone y (List.mem_filter.1 hy).1 z (List.mem_filter.1 hz).1
        · exact I
theorem inv_nil : InvL [] := ⟨List.Pairwise.nil, fun x hx => (by cases hx), fun x hx => (by cases hx)⟩
theorem inv_fold : ∀ (l : List ActV) (L : List HV), InvL L → (∀ a, a ∈ l → a.ok) → InvL (l.foldl stepL L)
  | [], L, I, _ => I
  | a :: l, L, I, h => inv_fold l (actL a L) (inv_act I a (h a (by simp))) (fun b hb => h b (by simp [hb]))
theorem inv_play {l : List ActV} (h : ∀ a, a ∈ l → a.ok) : InvL (playL l) := inv_fold _ _ inv_nil (fun a ha => h a (List.mem_of_mem_take ha))
end Go.Proofs.Ytnelmicecaggoaa
