import Derived.Test.YtnelmicecaggoaaProg
import Derived.Test.YtnelmicecaggoaaSortKit
import Derived.Test.YtnelmicecaggoaaDraw
import Derived.Test.YtnelmicecaggoaaShelf
namespace Go.Proofs.Ytnelmicecaggoaa
open Go.Eng
set_option linter.unusedSimpArgs false
set_option maxRecDepth 100000
/-- a hold's value -/
structure HV where
  node : Int
  opn : Int
  level : Int
  brk : Bool
  to : Int
  since : Int
def HV.cells (h : HV) : Array Value := #[.int .i64 h.node, .int .i64 h.opn, .int .u8 h.level, .bool h.brk, .int .u8 h.to, .int .i64 h.since]
abbrev ptrOf (b : Nat) : Value := .pointer (some ⟨b, 0, none⟩)
/-- block hb is a Holds, whose map, block mb, holds E: each hold's value, and the block that it lies in -/
structure HoldsRep (w : World) (hb mb : Nat) (E : List (HV × Nat)) : Prop where
  hd : w.heap[hb]? = some (.cells #[.map (some mb)] 62 (0, 0))
  mp : MapAt w mb (E.map fun x => (x.1.opn, ptrOf x.2))
  cells : ∀ x, x ∈ E → w.heap[x.2]? = some (.cells x.1.cells 32 (0, 0))
  nd : (E.map (·.2)).Nodup

theorem off_any (b m : Nat) (w : World) (hc : w.heap[b]? = some (.cells #[.map (some m)] 62 (0,0))) (k : Value → World → Prop) (hk : k (.bool false) w) :
    CallP Try.prog 31 #[ptrOf b] w k := by
  unfold ptrOf
  refine call_den (args := [_]) Try.func31 rfl rfl (by simp [Try.ntmps31]) ?_
  simp [go_sem, hc, run_eql_map_nil w 60 3 69 _ Try.underlying60]
  exact hk
theorem off_zero (b : Nat) (w : World) (hc : w.heap[b]? = some (.cells #[.map none] 62 (0,0))) (k : Value → World → Prop) (hk : k (.bool true) w) :
    CallP Try.prog 31 #[ptrOf b] w k := by
  unfold ptrOf
  refine call_den (args := [_]) Try.func31 rfl rfl (by simp [Try.ntmps31]) ?_
  simp [go_sem, hc, run_eql_map_nil w 60 3 69 _ Try.underlying60]
  exact hk
theorem off_nil (w : World) (k : Value → World → Prop) (hk : k (.bool true) w) :
    CallP Try.prog 31 #[.pointer none] w k := by
  refine call_den (args := [_]) Try.func31 rfl rfl (by simp [Try.ntmps31]) ?_
  simp [go_sem]
  exact hk
theorem new_any (w : World) (k : Value → World → Prop) (hk : ∀ w', HoldsRep w' (w.heap.size + 1) w.heap.size [] → Upd noB w w' → w'.heap.size = w.heap.size + 2 → k (ptrOf (w.heap.size + 1)) w') :
    CallP Try.prog 30 #[] w k := by
  refine call_den (args := []) Try.func30 rfl rfl (by simp [Try.ntmps30]) ?_
  simp [go_sem]
  refine hk _ ⟨?_, ?_, by simp, by simp⟩ (((Upd.refl _ _).alloc _).alloc _) (by simp)
  · rw [heap_alloc, if_pos (by simp)]
  · refine (mapAt_new w).same ?_
    rw [heap_alloc, if_neg (by simp)]
theorem cmp_any (a b : Nat) (x y : HV) (w : World) (ha : w.heap[a]? = some (.cells x.cells 32 (0,0))) (hb : w.heap[b]? = some (.cells y.cells 32 (0,0))) :
    CallP Try.prog 42 #[ptrOf a, ptrOf b] w fun v w' => v = .int .i64 (IntKind.i64.wrap (x.opn - y.opn)) ∧ ∃ q, w' = w.drewN q := by
  unfold ptrOf
  unfold HV.cells at ha hb
  refine call_den (args := [_, _]) Try.func42 rfl rfl (by simp [Try.ntmps42]) ?_
  simp [go_sem]
  refine draw_reads (by kernel_rfl) (by kernel_rfl) (by kernel_rfl) ?_
  simp [go_sem, ha, hb]
  exact fun i => ⟨i, rfl⟩
theorem slHold : SlT Try.prog 67 69 1 8 :=
  SlT.mk' Try.underlying67 (i := Try.t69) (z := .pointer none) (by kernel_rfl) (by kernel_rfl) (by kernel_rfl) (by kernel_rfl) rfl (by decide)
/-- what 'sorted' hands back -/
def SortedOut (w : World) (E : List (HV × Nat)) (p : HV → Bool) (v : Value) (w' : World) : Prop :=
  Upd noB w w' ∧ ∃ F : List (HV × Nat), F.Perm (E.filter fun x => p x.1) ∧ F.Pairwise (fun x y => x.1.opn < y.1.opn) ∧ w'.ownsRow (w.heap.size + 1) 69 1 v F.length (F.map fun x => ptrOf x.2)
def SortedI (w : World) (mb : Nat) (E : List (HV × Nat)) (g : FuncId) (cap : Array Value) (p : HV → Bool) (m : Nat) (ρ : Env) (w' : World) : Prop :=
  ∃ (vis rem : List (HV × Nat)) (cur : Option (Int × Value)) (v : Value), m = rem.length ∧ ρ 1 = .func (.func g) #[] cap ∧ ρ 5 = v ∧ ρ 12 = .pointer (some ⟨w.heap.size, 0, none⟩) ∧
    IterAt w' w.heap.size mb (E.map fun x => (x.1.opn, ptrOf x.2)) (rem.map fun x => (x.1.opn, ptrOf x.2)) cur ∧ Upd noB w w' ∧ (vis ++ rem).Perm E ∧
    w'.ownsRow (w.heap.size + 1) 69 1 v (vis.filter fun x => p x.1).length ((vis.filter fun x => p x.1).map fun x => ptrOf x.2) ∧ w.heap.size + 1 ≤ w'.heap.size
theorem sorted_any {w : World} {hb mb : Nat} {E : List (HV × Nat)} (R : HoldsRep w hb mb E) (hO : ∀ x, x ∈ E → 1 ≤ x.1.opn ∧ x.1.opn < 9223372036854775808) (hlen : E.length ≤ 1048576) (g : FuncId) (cap : Array Value) (p : HV → Bool)
    (hg : ∀ args w, (callFunc g args).run Try.prog w = .ok (.enter g args) w)
    (hp : ∀ x, x ∈ E → ∀ w', Upd noB w w' → CallP Try.prog g (#[ptrOf x.2] ++ cap) w' (fun v w'' => v = .bool (p x.1) ∧ Upd noB w' w'')) :
    CallP Try.prog 32 #[ptrOf hb, .func (.func g) #[] cap] w (SortedOut w E p) := by
  obtain ⟨o, hr, hi⟩ := rangeMap_run (P := Try.prog) (t := 60) R.mp Try.underlying60
  have hd := R.hd
  unfold ptrOf
  refine call_den (args := [_, _]) Try.func32 rfl rfl (by simp [Try.ntmps32]) ?_
  simp [go_sem, hd, K_range_ok _ _ _ hr]
  refine den_loop (SortedI w mb E g cap p) E.length ?_ ?_
  · refine ⟨[], E, none, _, rfl, ?_, rfl, ?_, hi, (Upd.refl _ _).alloc _, List.Perm.refl _, ?_, by simp⟩
    · simp [go_sem]
    · simp [go_sem]
    · simp [go_sem]
      exact World.ownsRow_nil _ _ _ _
  · rintro m ρ w' ⟨vis, rem, cur, v, rfl, h1, h5, h12, hit, hu, hperm, own, hsz⟩
    rcases nextMap_run (P := Try.prog) 0 hit with ⟨hrem, hrun⟩ | ⟨i, hi', w1, o1, hw1, hrun, hit1⟩
    · have hrem' : rem = [] := by simpa using hrem
      subst hrem'
      rw [List.append_nil] at hperm
      simp [go_sem, h12, K_next_ok _ _ _ _ hrun]
      rw [h5]
      let α := { x : HV × Nat // x ∈ E }
      by_cases hE : vis.filter (fun x => p x.1) = []
      · rw [hE] at own
        have hv0 : ∃ q cap', v = .slice q 0 cap' := by
          rcases own.2 with ⟨rfl, _⟩ | ⟨b, c, cur, rfl, _⟩
          · exact ⟨_, _, rfl⟩
          · exact ⟨_, _, rfl⟩
        obtain ⟨q, cap', rfl⟩ := hv0
        refine (AnyF.slices_SortFunc_none (P := Try.prog) (ρ := Try.sortL_ren) { Try.sortL with } q cap' (.func (.func 42) #[] #[]) w').mono ?_
        rintro e w2 ⟨rfl, rfl⟩
        refine ⟨_, rfl, ?_⟩
        simp [go_sem, h5]
        refine ⟨hu, [], ?_, List.Pairwise.nil, own⟩
        have := hperm.filter (fun x => p x.1)
        rw [hE] at this
        exact this
      · obtain ⟨x0, hx0⟩ := List.exists_mem_of_ne_nil _ hE
        have hx0E : x0 ∈ E := hperm.mem_iff.1 (List.mem_filter.1 hx0).1
        haveI : Inhabited { x : HV × Nat // x ∈ E } := ⟨⟨x0, hx0E⟩⟩
        have hmem : ∀ x, x ∈ vis.filter (fun x => p x.1) → x ∈ E := fun x hx => hperm.mem_iff.1 (List.mem_filter.1 hx).1
        have hsub : ((vis.filter fun x => p x.1).attach.map fun x => (⟨x.1, hmem x.1 x.2⟩ : { x : HV × Nat // x ∈ E })).map (fun x => ptrOf x.1.2) = (vis.filter fun x => p x.1).map fun x => ptrOf x.2 := by
          rw [List.map_map]
          conv => rhs; rw [← List.attach_map_subtype_val (vis.filter fun x => p x.1)]
          rw [List.map_map]; rfl
        have hwrap : ∀ x y : { x : HV × Nat // x ∈ E }, IntKind.i64.wrap (x.1.1.opn - y.1.1.opn) = x.1.1.opn - y.1.1.opn := by
          intro x y
          have := hO x.1 x.2
          have := hO y.1 y.2
          simp only [IntKind.wrap, IntKind.bits, IntKind.signed]
          simp; omega
        have hcells : ∀ x : { x : HV × Nat // x ∈ E }, ∀ w2, Upd noB w w2 → w2.heap[x.1.2]? = some (.cells x.1.1.cells 32 (0,0)) := fun x w2 hu2 => hu2.get (R.cells x.1 x.2) (by simp [noB])
        have hlen2 : (vis.filter fun x => p x.1).length ≤ E.length := by
          rw [← hperm.length_eq]; exact List.length_filter_le _ _
        have own2 : w'.ownsRow (w.heap.size + 1) 69 1 v ((vis.filter fun x => p x.1).attach.map fun x => (⟨x.1, hmem x.1 x.2⟩ : { x : HV × Nat // x ∈ E })).length (((vis.filter fun x => p x.1).attach.map fun x => (⟨x.1, hmem x.1 x.2⟩ : { x : HV × Nat // x ∈ E })).map (fun x => ptrOf x.1.2)) := by
          rw [hsub]; simpa using own
        have hs := sort_own (P := Try.prog) (ρ := Try.sortL_ren) Try.sortL (fun x : { x : HV × Nat // x ∈ E } => ptrOf x.1.2) (fun _ => rfl) (fun x y => x.1.1.opn - y.1.1.opn) ⟨by intro x; simp [ltOf], by intro x y z; simp [ltOf]; omega, by intro x y z; simp [ltOf]; omega⟩ 42 #[] own2
          (by intro args w; exact Try.call42 args w) (by simp; omega) (by
            intro x y w2 hu2
            have hu3 : Upd noB w w2 := by
              refine hu.trans' hu2 ?_
              intro b hb hlt
              have := (own.lt b hb).1
              omega
            refine Calls.mono (cmp_any x.1.2 y.1.2 x.1.1 y.1.1 w2 (hcells x w2 hu3) (hcells y w2 hu3)) ?_
            rintro r w3 ⟨u, rfl, rfl, q, rfl⟩
            exact ⟨by rw [hwrap], q, rfl⟩)
        refine Calls.mono hs ?_
        rintro r w2 ⟨u, rfl, rfl, ys, hp1, hp2, own3, hu2⟩
        refine ⟨_, rfl, ?_⟩
        simp [go_sem, h5]
        refine ⟨?_, ys.map (·.1), ?_, ?_, ?_⟩
        · refine hu.trans' hu2 ?_
          intro b hb hlt
          have := (own.lt b hb).1
          omega
        · have h2 := hp1.map (fun x : { x : HV × Nat // x ∈ E } => x.1)
          rw [List.map_map] at h2
          have h3 : ((vis.filter fun x => p x.1).attach.map ((fun x : { x : HV × Nat // x ∈ E } => x.1) ∘ fun x => (⟨x.1, hmem x.1 x.2⟩ : { x : HV × Nat // x ∈ E }))) = vis.filter fun x => p x.1 := by
            conv => rhs; rw [← List.attach_map_subtype_val (vis.filter fun x => p x.1)]
            rfl
          rw [h3] at h2
          exact h2.trans (hperm.filter _)
        · rw [List.pairwise_map]
          have hnd : ys.Pairwise (fun x y => x.1.1.opn ≠ y.1.1.opn) := by
            have h4 : (E.map fun x => x.1.opn).Nodup := by
              obtain ⟨es, clk, _, _, _, hnd⟩ := R.mp
              simpa [List.map_map, Function.comp_def] using hnd
            have h2 := hp1.map (fun x : { x : HV × Nat // x ∈ E } => x.1)
            rw [List.map_map] at h2
            have h3 : ((vis.filter fun x => p x.1).attach.map ((fun x : { x : HV × Nat // x ∈ E } => x.1) ∘ fun x => (⟨x.1, hmem x.1 x.2⟩ : { x : HV × Nat // x ∈ E }))) = vis.filter fun x => p x.1 := by
              conv => rhs; rw [← List.attach_map_subtype_val (vis.filter fun x => p x.1)]
              rfl
            rw [h3] at h2
            have h5 := (h2.trans (hperm.filter (fun x => p x.1))).map (fun x => x.1.opn)
            have h6 : ((E.filter fun x => p x.1).map fun x => x.1.opn).Nodup := h4.sublist (List.filter_sublist.map _)
            have h7 := h5.nodup_iff.2 h6
            rw [List.map_map] at h7
            exact (List.pairwise_map.1 h7)
          refine List.Pairwise.imp₂ ?_ hp2 hnd
          intro x y h1 h2
          simp [ltOf] at h1
          have : x.1.1.opn ≠ y.1.1.opn := h2
          omega
        · have hl : ys.length = (vis.filter fun x => p x.1).length := by rw [hp1.length_eq]; simp
          rw [List.length_map, hl, List.map_map]
          simpa [Function.comp_def] using own3
    · have hi2 : i < rem.length := by simpa using hi'
      simp only [List.getElem_map] at hrun hit1
      rw [← map_eraseIdx] at hit1
      have hent := entryMap_run (P := Try.prog) hit1
      have hheap : w1.heap = w'.heap ∧ w1.os = w'.os ∧ w1.tape = w'.tape ∧ w1.output = w'.output := by rcases hw1 with h | h <;> (rw [h]; exact ⟨rfl, rfl, rfl, rfl⟩)
      have hu1' : Upd noB w w1 := ⟨hheap.2.1.trans hu.os, hheap.2.2.1.trans hu.tape, hheap.2.2.2.trans hu.output, by rw [hheap.1]; exact hu.size, fun b hb hn => by rw [hheap.1]; exact hu.block b hb hn⟩
      have hu1 : Upd noB w (w1.setB w.heap.size o1) := hu1'.setB _ _ (fun h => by omega)
      have hxE : rem[i] ∈ E := hperm.mem_iff.1 (List.mem_append.2 (Or.inr (List.getElem_mem hi2)))
      have own1 : (w1.setB w.heap.size o1).ownsRow (w.heap.size + 1) 69 1 v (vis.filter fun x => p x.1).length ((vis.filter fun x => p x.1).map fun x => ptrOf x.2) := by
        refine own.kept (row := some w.heap.size) ⟨hheap.2.1, hheap.2.2.1, hheap.2.2.2, by rw [size_setB, hheap.1]; omega, fun b hb hn => ?_⟩ ?_
        · rw [heap_setB, if_neg (fun e => hn (by rw [e])), hheap.1]
        · cases hv : v.ownBlock with
          | none => left; rfl
          | some b => right; intro e; have := (own.lt b hv).1; simp at e; omega
      have hpe : (vis ++ [rem[i]] ++ rem.eraseIdx i).Perm E := by
        refine List.Perm.trans ?_ hperm
        rw [List.append_assoc]
        refine List.Perm.append_left vis ?_
        exact (perm_eraseIdx rem i hi2)
      have hlt : (rem.eraseIdx i).length < rem.length := by rw [List.length_eraseIdx_of_lt hi2]; omega
      have hsz1 : w.heap.size + 1 ≤ (w1.setB w.heap.size o1).heap.size := by rw [size_setB, hheap.1]; exact hsz
      generalize w1.setB w.heap.size o1 = w2 at hrun hit1 hent hu1 own1 hsz1
      simp [go_sem, h12, K_next_ok _ _ _ _ hrun, K_entry_ok _ _ hent, h1, hg]
      refine CallP.mono (hp _ hxE w2 hu1) ?_
      rintro r w3 ⟨rfl, hu3⟩
      have hu13 : Upd noB w w3 := hu1.trans hu3
      have hit3 := hit1.keep hu3 (by simp [noB]) (by simp [noB])
      have hsz3 : w.heap.size + 1 ≤ w3.heap.size := Nat.le_trans hsz1 hu3.size
      have own3 : w3.ownsRow (w.heap.size + 1) 69 1 v (vis.filter fun x => p x.1).length ((vis.filter fun x => p x.1).map fun x => ptrOf x.2) :=
        own1.kept (row := none) ⟨hu3.os, hu3.tape, hu3.output, hu3.size, fun b hb _ => hu3.block b hb (by simp [noB])⟩ (by cases v.ownBlock <;> simp)
      cases hpx : p rem[i].1 with
      | false =>
        simp [go_sem]
        refine ⟨_, hlt, vis ++ [rem[i]], rem.eraseIdx i, _, _, rfl, by simpa [go_sem] using h1, rfl, by simpa [go_sem] using h12, hit3, hu13, by simpa using hpe, ?_, hsz3⟩
        have : (vis ++ [rem[i]]).filter (fun x => p x.1) = vis.filter (fun x => p x.1) := by simp [hpx]
        rw [this]; simpa [go_sem, h5] using own3
      | true =>
        have hb1 := slHold.build1 (w := w3) (ptrOf rem[i].2) rfl (by decide)
        have own4 := own3.alloc (.cells #[ptrOf rem[i].2] 69)
        have hlen2 : (vis.filter fun x => p x.1).length + 1 ≤ 1048576 := by
          have h1 := List.length_filter_le (fun x : HV × Nat => p x.1) vis
          have h2 := hperm.length_eq
          simp at h2
          omega
        obtain ⟨v', w5, hap, own5, hgr, _⟩ := slHold.append_all own4 67 (b := w3.heap.size) (m := 1) (c := 1) (cs := #[ptrOf rem[i].2]) (by rw [heap_alloc, if_pos rfl]) rfl (by simp [ptrOf, Value.oneCell']) (by omega) (by unfold maxLen; omega) (by simp; omega)
        simp [go_sem, h5, K_buildSlice_ok _ _ _ _ hb1, K_append_ok _ _ _ _ hap]
        have hu5 : Upd noB w w5 := (hu13.alloc _).grown hgr (fun b hb hlt => by have := (own3.lt b hb).1; omega)
        refine ⟨_, hlt, vis ++ [rem[i]], rem.eraseIdx i, some (rem[i].1.opn, ptrOf rem[i].2), _, rfl, by simpa [go_sem] using h1, rfl, by simpa [go_sem] using h12, ?_, hu5, by simpa using hpe, ?_, ?_⟩
        · obtain ⟨es, clk, seen, g1, g2, g3⟩ := hit3
          have hg : ∀ b, b < w.heap.size + 1 → w5.heap[b]? = w3.heap[b]? := by
            intro b hb
            rw [hgr.block b (by simp; omega) (fun e => by have := (own3.lt b e.symm).1; omega), heap_alloc, if_neg (by omega)]
          exact ⟨es, clk, seen, by rw [hg _ (by have := R.mp.lt; omega)]; exact g1, by rw [hg _ (by omega)]; exact g2, g3⟩
        · have hf : (vis ++ [rem[i]]).filter (fun x => p x.1) = vis.filter (fun x => p x.1) ++ [rem[i]] := by simp [hpx]
          rw [hf]
          simpa [go_sem, Value.cells, ptrOf] using own5
        · have := hgr.size
          simp at this
          omega
end Go.Proofs.Ytnelmicecaggoaa
