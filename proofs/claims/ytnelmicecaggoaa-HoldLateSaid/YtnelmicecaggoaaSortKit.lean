/-
  slices.SortFunc over a slice of the call's own whose elements are of one cell, in this seat's words.
-/
import Derived.Test.YtnelmicecaggoaaSli
import Derived.Shelf.SlSortCmp.NoneTotal
namespace Go.Eng
set_option linter.unusedSimpArgs false
open Go Go.Shelf Go.RowKit Go.Lib Go.Sort Go.Proofs
section
variable {P : Program} {ρ : Ren} {α : Type} [Inhabited α]
theorem heap_sortWorld (enc : α → Value) (w : World) (blk off m : Nat) (d : Array α) (os : Array Obj) (b : Nat) (hb : b < w.heap.size) (hne : b ≠ blk) : (sortWorld enc w blk off m d os).heap[b]? = w.heap[b]? := by
  unfold sortWorld
  rw [heap_grow_old _ _ (by simpa [putRow, mapBlock, Sort.ahead] using hb)]
  simp only [putRow, mapBlock, Sort.ahead, Array.getElem?_modify]
  rw [if_neg (fun e => hne e.symm)]
theorem heap_sortWorld_row (enc : α → Value) (w : World) (blk m : Nat) (d : Array α) (os : Array Obj) {c : Array Value} {e : TypeId} {f : Nat × Nat} (hb : w.heap[blk]? = some (.cells c e f)) :
    (sortWorld enc w blk 0 m d os).heap[blk]? = some (.cells (putCells enc 0 d c) e f) := by
  have hlt := (Array.getElem?_eq_some_iff.1 hb).1
  unfold sortWorld
  rw [heap_grow_old _ _ (by simpa [putRow, mapBlock, Sort.ahead] using hlt)]
  simp only [putRow, mapBlock, Sort.ahead, Array.getElem?_modify]
  rw [if_pos trivial, hb]
  rfl
theorem upd_sortWorld (enc : α → Value) (w : World) (blk off m : Nat) (d : Array α) (os : Array Obj) : Upd (fun b => b = blk) w (sortWorld enc w blk off m d os) :=
  ⟨rfl, rfl, rfl, by simp [sortWorld, putRow, mapBlock, Sort.ahead], fun b hb hn => heap_sortWorld enc w blk off m d os b hb hn⟩
theorem putCells_take (enc : α → Value) (d : Array α) (c : Array Value) (h : d.size ≤ c.size) : (putCells enc 0 d c).toList.take d.size = d.toList.map enc := by
  apply List.ext_getElem?
  intro i
  rw [List.getElem?_take]
  by_cases hi : i < d.size
  · rw [if_pos hi]
    have hc : i < c.size := by omega
    simp [putCells, hi, hc]
  · rw [if_neg hi]
    rw [List.getElem?_eq_none (by simp; omega)]
theorem sort_own (L : SlLaysF.n6 P ρ) (enc : α → Value) (h1 : OneCell enc) (cf : α → α → Int) (hO : SWO (ltOf cf)) (g : Nat) (cb : Array Value) {w : World} {base : Nat} {e : TypeId} {v : Value} {xs : List α}
    (own : w.ownsRow base e 1 v xs.length (xs.map enc)) (eg : ∀ args w, (callFunc g args).run P w = .ok (.enter g args) w) (hsz : xs.length < 4611686018427387904)
    (hcmp : ∀ x y : α, ∀ w', Upd (fun b => v.ownBlock = some b) w w' → Calls P g (#[enc x, enc y] ++ cb) w' fun r w'' => r = .returned (.int .i64 (cf x y)) ∧ ∃ q, w'' = w'.drewN q) :
    CallP P (ρ.f 6) #[v, .func (.func g) #[] cb] w fun r w' => r = .tuple #[] ∧
      ∃ ys : List α, ys.Perm xs ∧ ys.Pairwise (fun x y => (ltOf cf) y x = false) ∧ w'.ownsRow base e 1 v xs.length (ys.map enc) ∧ Upd (fun b => v.ownBlock = some b) w w' := by
  have none : ∀ p cap, v = .slice p 0 cap → xs = [] → CallP P (ρ.f 6) #[v, .func (.func g) #[] cb] w fun r w' => r = .tuple #[] ∧
      ∃ ys : List α, ys.Perm xs ∧ ys.Pairwise (fun x y => (ltOf cf) y x = false) ∧ w'.ownsRow base e 1 v xs.length (ys.map enc) ∧ Upd (fun b => v.ownBlock = some b) w w' := by
    intro p cap hv hx
    have h := AnyF.slices_SortFunc_none (P := P) (ρ := ρ) { L with } p cap (.func (.func g) #[] cb) w
    subst hv hx
    refine h.mono ?_
    rintro e w' ⟨rfl, rfl⟩
    exact ⟨_, rfl, rfl, [], List.Perm.refl _, List.Pairwise.nil, own, Upd.refl _ _⟩
  rcases own.2 with ⟨hv, hn⟩ | ⟨b, cap, cur, hv, hbase, hb, hnc, hcap, hcs, htake⟩
  · exact none _ _ hv (List.eq_nil_of_length_eq_zero hn)
  · by_cases hx : xs = []
    · subst hx
      exact none _ _ hv rfl
    · have hown : v.ownBlock = some b := by rw [hv]; rfl
      have hblk := (Array.getElem?_eq_some_iff.1 hb).1
      have hcs' : cur.size = cap := by simpa using hcs
      have hH : Holds enc w b 0 xs.toArray := by
        intro j hj
        have hj' : j < xs.length := by simpa using hj
        have hjc : j < cur.size := by omega
        have hget : cur[j]? = some (enc xs.toArray[j]!) := by
          have h2 : (cur.toList.take (xs.length * 1))[j]? = (xs.map enc)[j]? := by rw [htake]
          rw [List.getElem?_take, if_pos (by omega)] at h2
          simp only [List.getElem?_map, List.getElem?_eq_getElem hj', Option.map_some] at h2
          rw [← Array.getElem?_toList, h2]
          simp [hj']
        refine ⟨?_, ?_⟩
        · rw [Nat.zero_add, cell?_at, hb, cellIn_some]; exact hget
        · rw [frozen?_at, hb, frozenIn_00]
      have hcl : CmpLays1 P g cb enc cf b 0 xs.toArray.size w := by
        intro m os dk hs x y
        refine (hcmp x y _ ((upd_sortWorld enc w b 0 m dk os).mono fun i _ hi => by rw [hown, hi])).mono ?_
        rintro r w'' ⟨hr, q, hq⟩
        exact ⟨hr, q, #[], by rw [hq, grow_empty]⟩
      have h := Any.slices_SortFunc L enc h1 cf hO g cb b 0 cap xs.toArray w eg hcl hH hblk (by simpa using hsz)
      have hv2 : v = .slice (some ⟨b, 0, Option.none⟩) xs.toArray.size cap := by rw [hv]; simp
      rw [hv2]
      refine h.mono ?_
      rintro r w' ⟨rfl, d', m, os, hp, hs, rfl⟩
      refine ⟨_, rfl, rfl, d'.toList, ?_, ?_, ?_, ?_⟩
      · have hsz2 := hp.1
        have hperm := hp.2.2
        have e1 : d'.extract 0 xs.toArray.size = d' := by rw [← hsz2]; exact Array.extract_size
        have e2 : xs.toArray.extract 0 xs.toArray.size = xs.toArray := Array.extract_size
        rw [e1, e2] at hperm
        simpa using hperm
      · rw [List.pairwise_iff_getElem]
        intro i j hi hj hij
        have hsz2 := hp.1
        have := hs i j (Nat.zero_le _) hij (by rw [← hsz2]; simpa using hj)
        have hi' : i < d'.size := by simpa using hi
        have hj' : j < d'.size := by simpa using hj
        rw [getElem!_pos d' i hi', getElem!_pos d' j hj'] at this
        simpa using this
      · have hsz2 : d'.size = xs.length := by have := hp.1; simpa using this
        refine ⟨by simp [hsz2], Or.inr ⟨b, cap, putCells enc 0 d' cur, by simp, hbase, heap_sortWorld_row enc w b m d' os hb, by simpa using hnc, hcap, by simp [putCells, hcs], ?_⟩⟩
        have := putCells_take enc d' cur (by omega)
        rw [hsz2] at this
        simpa using this
      · refine (upd_sortWorld enc w b 0 m d' os).mono fun i _ hi => ?_
        rw [hi]; rfl
end
end Go.Eng
