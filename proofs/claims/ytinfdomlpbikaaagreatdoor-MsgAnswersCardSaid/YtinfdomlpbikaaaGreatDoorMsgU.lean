/-
  Heads: read, by the program.
-/
import Derived.Test.YtinfdomlpbikaaaGreatDoorMsgT
namespace Go.Proofs.YtinfdomlpbikaaaGreatDoor
open Go.Eng
set_option linter.unusedSimpArgs false
set_option linter.unusedVariables false
set_option maxRecDepth 100000
variable {w w0 : World}
/-- what the rest of head.Get stands on -/
structure GU (w W : World) (p : Option Addr) (n cap a : Nat) (G : HeadV) : Prop where
  u : Upd noB w W
  hs : W.heap[w.heap.size]? = some (.cells #[.slice p n cap] 31 (0, 0))
  ha : W.heap[w.heap.size + 1]? = some (.cells #[.int .i64 (a : Int)] 3 (0, 0))
  hz : W.heap[w.heap.size + 1 + 1]? = some (.cells zeroH.cells 28 (0, 0))
  hh : W.heap[w.heap.size + 1 + 1 + 1]? = some (.cells G.cells 28 (0, 0))
theorem GU.set {W : World} {p : Option Addr} {n cap a : Nat} {G : HeadV} (g : GU w W p n cap a G) (G' : HeadV) : GU w (W.setB (w.heap.size + 1 + 1 + 1) (.cells G'.cells 28)) p n cap a G' :=
  ⟨g.u.setB _ _ (fun h => absurd h (by omega)), by rw [heap_setB, if_neg (by omega)]; exact g.hs, by rw [heap_setB, if_neg (by omega)]; exact g.ha, by rw [heap_setB, if_neg (by omega)]; exact g.hz, by rw [heap_setB, if_pos rfl, g.hh]; rfl⟩
theorem GU.keep {W W' : World} {p : Option Addr} {n cap a : Nat} {G : HeadV} (g : GU w W p n cap a G) (u : Upd noB W W') : GU w W' p n cap a G :=
  ⟨g.u.trans u, u.get g.hs (by simp [noB]), u.get g.ha (by simp [noB]), u.get g.hz (by simp [noB]), u.get g.hh (by simp [noB])⟩
set_option maxHeartbeats 4000000 in
theorem headGet_any {s : Value} {l : List UInt8} (hb : BytesAt w s l) (hl : l.length ≤ 9223372036854775000) (a : Nat) (ha : a ≤ l.length) :
    CallP Tryz.prog 43 #[s, .int .i64 a] w (fun r w' => Upd noB w w' ∧ GetOut l a r) := by
  obtain ⟨p, cap, rfl, hcap⟩ := hb.len
  have hwn : ∀ k : Int, 0 ≤ k → k ≤ 64 → IntKind.i64.wrap ((a : Int) + k) = (a : Int) + k := fun k h0 hk => wrap64_id (by omega) (by omega)
  have hw1 : IntKind.i64.wrap ((l.length : Int) - a) = (l.length : Int) - a := wrap64_id (by omega) (by omega)
  have n1 : ¬ (a : Int) < 0 := by omega
  have n2 : ¬ l.length < a := by omega
  have hsz0 : zeroH.cells.size = 26 := HeadV.size _
  refine call_den (args := [_, _]) Tryz.func43 rfl rfl (by simp [Tryz.ntmps43]) ?_
  simp [go_sem, n1]
  refine gen_load ?_
  intro W hW
  have hu : Upd noB w W := by rw [hW]; exact (by repeat (first | exact Upd.refl _ _ | refine Upd.alloc ?_ _ | refine Upd.drew ?_ | refine Upd.drewN ?_ _ | refine Upd.setB ?_ _ _ (fun h => absurd h (by omega))))
  have hz : W.heap[w.heap.size + 1 + 1]? = some (.cells zeroH.cells 28 (0, 0)) := by rw [hW, heap_alloc, if_pos (by simp)]
  have ha' : W.heap[w.heap.size + 1]? = some (.cells #[.int .i64 (a : Int)] 3 (0, 0)) := by rw [hW, heap_alloc, if_neg (by simp), heap_alloc, if_pos (by simp)]
  have hs' : W.heap[w.heap.size]? = some (.cells #[.slice p l.length cap] 31 (0, 0)) := by rw [hW, heap_alloc, if_neg (by simp; omega), heap_alloc, if_neg (by simp), heap_alloc, if_pos rfl]
  have hsz : W.heap.size = w.heap.size + 1 + 1 + 1 := by rw [hW]; simp
  clear hW
  by_cases h64 : l.length - a < 64
  · have n3 : (l.length : Int) - a < 64 := by omega
    simp [go_sem, n1, n2, n3, hw1, hz, ha', hs', hsz0]
    refine ⟨hu.setB _ _ (fun h => absurd h (by omega)), ?_⟩
    unfold GetOut
    rw [if_pos h64]
  · have n3 : ¬ (l.length : Int) - a < 64 := by omega
    simp [go_sem, n1, n2, n3, hw1, hwn, hz, ha', hs', hsz0]
    refine CallP.mono (getN_any (hb.keep0 hu) (by omega) a 6 2 w.heap.size (w.heap.size + 1) (by assumption) (by assumption) rfl (by omega) (by decide) (Tryz.isAgg31 _)) ?_
    rintro r W2 ⟨rfl, hW2⟩
    rw [hW2]
    clear hW2
    clear W2
    simp [go_sem, hwn, hz, ha', hs', hsz0]
    refine CallP.mono (getN_any (hb.keep0 hu) (by omega) a 8 4 w.heap.size (w.heap.size + 1) (by assumption) (by assumption) rfl (by omega) (by decide) (Tryz.isAgg31 _)) ?_
    rintro r W2 ⟨rfl, hW2⟩
    rw [hW2]
    clear hW2
    clear W2
    simp [go_sem, hwn, hz, ha', hs', hsz0]
    refine CallP.mono (getN_any (hb.keep0 hu) (by omega) a 12 2 w.heap.size (w.heap.size + 1) (by assumption) (by assumption) rfl (by omega) (by decide) (Tryz.isAgg31 _)) ?_
    rintro r W2 ⟨rfl, hW2⟩
    rw [hW2]
    clear hW2
    clear W2
    simp [go_sem, hwn, hz, ha', hs', hsz0]
    refine CallP.mono (getN_any (hb.keep0 hu) (by omega) a 14 2 w.heap.size (w.heap.size + 1) (by assumption) (by assumption) rfl (by omega) (by decide) (Tryz.isAgg31 _)) ?_
    rintro r W2 ⟨rfl, hW2⟩
    rw [hW2]
    clear hW2
    clear W2
    simp [go_sem, hwn, hz, ha', hs', hsz0]
    refine CallP.mono (getN_any (hb.keep0 hu) (by omega) a 16 4 w.heap.size (w.heap.size + 1) (by assumption) (by assumption) rfl (by omega) (by decide) (Tryz.isAgg31 _)) ?_
    rintro r W2 ⟨rfl, hW2⟩
    rw [hW2]
    clear hW2
    clear W2
    simp [go_sem, hwn, hz, ha', hs', hsz0]
    refine CallP.mono (getN_any (hb.keep0 hu) (by omega) a 20 4 w.heap.size (w.heap.size + 1) (by assumption) (by assumption) rfl (by omega) (by decide) (Tryz.isAgg31 _)) ?_
    rintro r W2 ⟨rfl, hW2⟩
    rw [hW2]
    clear hW2
    clear W2
    simp [go_sem, hwn, hz, ha', hs', hsz0]
    refine CallP.mono (getN_any (hb.keep0 hu) (by omega) a 24 8 w.heap.size (w.heap.size + 1) (by assumption) (by assumption) rfl (by omega) (by decide) (Tryz.isAgg31 _)) ?_
    rintro r W2 ⟨rfl, hW2⟩
    rw [hW2]
    clear hW2
    clear W2
    simp [go_sem, hwn, hz, ha', hs', hsz0]
    refine CallP.mono (getN_any (hb.keep0 hu) (by omega) a 40 8 w.heap.size (w.heap.size + 1) (by assumption) (by assumption) rfl (by omega) (by decide) (Tryz.isAgg31 _)) ?_
    rintro r W2 ⟨rfl, hW2⟩
    rw [hW2]
    clear hW2
    clear W2
    simp [go_sem, hwn, hz, ha', hs', hsz0]
    refine gen_den ?_
    intro W3 hW3
    have g : GU w W3 p l.length cap a (gH l a 8) := by
      rw [hW3]
      refine ⟨(hu.alloc _).setB _ _ (fun h => absurd h (by omega)), ?_, ?_, ?_, ?_⟩
      · rw [heap_setB, if_neg (by omega), heap_alloc, if_neg (by omega)]; exact hs'
      · rw [heap_setB, if_neg (by omega), heap_alloc, if_neg (by omega)]; exact ha'
      · rw [heap_setB, if_neg (by omega), heap_alloc, if_neg (by omega)]; exact hz
      · rw [heap_setB, if_pos hsz.symm, heap_alloc, if_pos hsz.symm]; rfl
    rw [hsz]
    clear hW3 hu hz ha' hs' hsz
    have a2 := and_2 (f := (numAt l (a + 16) 4 : Int)) (by omega) (by have := numAt_lt l (a + 16) 4; omega)
    by_cases hf : hasF (numAt l (a + 16) 4) 2
    · simp [go_sem, a2, hf]
      refine CallP.mono (getN_any (hb.keep0 g.u) (by omega) a 32 8 w.heap.size (w.heap.size + 1) g.hs g.ha rfl (by omega) (by decide) (Tryz.isAgg31 _)) ?_
      rintro r W2 ⟨rfl, hW2⟩
      rw [hW2]
      clear hW2
      clear W2
      simp [go_sem, g.hh]
      refine gen_draw ?_
      intro W4 hW4
      have g2 : GU w W4 p l.length cap a (GA l a) := by rw [hW4]; exact g.set (GA l a)
      clear hW4 g
      refine draw_script [.pure 0, .still [1, 2, 3, 4, 5, 6, 7], .one 8] (by kernel_rfl) (by kernel_rfl) (by kernel_rfl) ?_
      have d : GU w W4.drew p l.length cap a (GA l a) := g2.keep ((Upd.refl noB W4).drew)
      have c0 : 0 ≤ (a : Int) + 48 := by omega
      have c1 : (a : Int) + 48 ≤ (a : Int) + 64 := by omega
      have c2 : (a : Int) + 64 ≤ cap := by omega
      simp [go_sem, hwn, d.hs, d.ha, d.hh, d.hz, g2.hs, g2.ha, c0, c1, c2]
      have hS : (cutL l (a + 48) 16).length = 16 := cutL_len l (a + 48) 16 (by omega)
      have hfin : { (GA l a) with sign := ⟨cutL l (a + 48) 16, hS⟩ } = getH l a := by
        simp [GA, GT, gH, getH, hf, hS]
      have key := (hb.keep0 d.u).cut (lo := a + 48) (hi := a + 64) (m := cap) (by omega) (by omega) (by omega)
      have e1 : a + 64 - (a + 48) = 16 := by omega
      rw [e1] at key
      have e2 : Value.slice (if cap = ((a : Int) + 48).toNat then p else Option.map (fun x => x.add ((a : Int) + 48).toNat) p) (((a : Int) + 64).toNat - ((a : Int) + 48).toNat) (cap - ((a : Int) + 48).toNat) = sliced p (a + 48) (a + 64) cap 1 := by
        have t1 : ((a : Int) + 48).toNat = a + 48 := by omega
        have t2 : ((a : Int) + 64).toNat = a + 64 := by omega
        rw [t1, t2]
        unfold sliced
        simp
      rw [e2, K_copy_bytes (l := cutL l (a + 48) 16) key (by omega) d.hh (by rw [hS, HeadV.size]; decide) hS.symm, head_copy _ _ hS, hfin]
      obtain ⟨W5, hW5⟩ : ∃ W5, W5 = W4.drew.setB (w.heap.size + 1 + 1 + 1) (.cells (getH l a).cells 28 (0, 0)) := ⟨_, rfl⟩
      rw [← hW5]
      have g : GU w W5 p l.length cap a (getH l a) := by rw [hW5]; exact d.set _
      clear hW5 d g2 key e2
      have a3 : bits .and .u32 (getH l a).flags 2 = if hasF (numAt l (a + 16) 4) 2 then 2 else 0 := a2
      simp [go_sem, hwn]
      refine CallP.mono (getN_any (hb.keep0 g.u) (by omega) a 0 4 w.heap.size (w.heap.size + 1) g.hs g.ha rfl (by omega) (by decide) (Tryz.isAgg31 _)) ?_
      rintro r W2 ⟨rfl, hW2⟩
      rw [hW2]
      clear hW2
      clear W2
      by_cases m4 : numAt l a 4 = 1112364030
      · simp [go_sem, m4]
        refine CallP.mono (getN_any (hb.keep0 g.u) (by omega) a 4 2 w.heap.size (w.heap.size + 1) g.hs g.ha rfl (by omega) (by decide) (Tryz.isAgg31 _)) ?_
        rintro r W2 ⟨rfl, hW2⟩
        rw [hW2]
        clear hW2
        clear W2
        by_cases h4 : numAt l (a + 4) 2 = 64
        · simp [go_sem, h4, g.hh]
          refine CallP.mono (headMay_any (getH l a) (getH_ok l a) _) ?_
          rintro r W6 ⟨rfl, u6⟩
          replace g := g.keep u6
          cases hmay : mayL (getH l a) with
          | false =>
            simp [go_sem, g.hh, g.hz, hsz0]
            refine ⟨g.u.setB _ _ (fun h => absurd h (by omega)), ?_⟩
            unfold GetOut
            rw [if_neg h64, if_pos (by simp [badH, hmay])]
          | true =>
            simp [go_sem, g.hh, g.hz, hsz0, a3, hf]
            refine ⟨g.u.setB _ _ (fun h => absurd h (by omega)), ?_⟩
            unfold GetOut
            rw [if_neg h64, if_neg (by simp [badH, hmay, m4, h4, hf])]
        · have h4' : ¬ (numAt l (a + 4) 2 : Int) = 64 := by omega
          simp [go_sem, g.hh, g.hz, hsz0, h4, h4']
          refine ⟨g.u.setB _ _ (fun h => absurd h (by omega)), ?_⟩
          unfold GetOut
          rw [if_neg h64, if_pos (by simp [badH, h4])]
      · have m4' : ¬ (numAt l a 4 : Int) = 1112364030 := by omega
        simp [go_sem, g.hh, g.hz, hsz0, m4, m4']
        refine ⟨g.u.setB _ _ (fun h => absurd h (by omega)), ?_⟩
        unfold GetOut
        rw [if_neg h64, if_pos (by simp [badH, m4])]
    · simp [go_sem, a2, hf]
      refine CallP.mono (getN_any (hb.keep0 g.u) (by omega) a 36 4 w.heap.size (w.heap.size + 1) g.hs g.ha rfl (by omega) (by decide) (Tryz.isAgg31 _)) ?_
      rintro r W2 ⟨rfl, hW2⟩
      rw [hW2]
      clear hW2
      clear W2
      simp [go_sem, g.hh]
      refine gen_draw ?_
      intro W4 hW4
      have g2 : GU w W4 p l.length cap a (GT l a) := by rw [hW4]; exact g.set (GT l a)
      clear hW4 g
      refine draw_script [.pure 0, .still [1, 2, 3, 4, 5, 6, 7], .one 8] (by kernel_rfl) (by kernel_rfl) (by kernel_rfl) ?_
      have d : GU w W4.drew p l.length cap a (GT l a) := g2.keep ((Upd.refl noB W4).drew)
      have c0 : 0 ≤ (a : Int) + 48 := by omega
      have c1 : (a : Int) + 48 ≤ (a : Int) + 64 := by omega
      have c2 : (a : Int) + 64 ≤ cap := by omega
      simp [go_sem, hwn, d.hs, d.ha, d.hh, d.hz, g2.hs, g2.ha, c0, c1, c2]
      have hS : (cutL l (a + 48) 16).length = 16 := cutL_len l (a + 48) 16 (by omega)
      have hfin : { (GT l a) with sign := ⟨cutL l (a + 48) 16, hS⟩ } = getH l a := by
        simp [GA, GT, gH, getH, hf, hS]
      have key := (hb.keep0 d.u).cut (lo := a + 48) (hi := a + 64) (m := cap) (by omega) (by omega) (by omega)
      have e1 : a + 64 - (a + 48) = 16 := by omega
      rw [e1] at key
      have e2 : Value.slice (if cap = ((a : Int) + 48).toNat then p else Option.map (fun x => x.add ((a : Int) + 48).toNat) p) (((a : Int) + 64).toNat - ((a : Int) + 48).toNat) (cap - ((a : Int) + 48).toNat) = sliced p (a + 48) (a + 64) cap 1 := by
        have t1 : ((a : Int) + 48).toNat = a + 48 := by omega
        have t2 : ((a : Int) + 64).toNat = a + 64 := by omega
        rw [t1, t2]
        unfold sliced
        simp
      rw [e2, K_copy_bytes (l := cutL l (a + 48) 16) key (by omega) d.hh (by rw [hS, HeadV.size]; decide) hS.symm, head_copy _ _ hS, hfin]
      obtain ⟨W5, hW5⟩ : ∃ W5, W5 = W4.drew.setB (w.heap.size + 1 + 1 + 1) (.cells (getH l a).cells 28 (0, 0)) := ⟨_, rfl⟩
      rw [← hW5]
      have g : GU w W5 p l.length cap a (getH l a) := by rw [hW5]; exact d.set _
      clear hW5 d g2 key e2
      have a3 : bits .and .u32 (getH l a).flags 2 = if hasF (numAt l (a + 16) 4) 2 then 2 else 0 := a2
      simp [go_sem, hwn]
      refine CallP.mono (getN_any (hb.keep0 g.u) (by omega) a 0 4 w.heap.size (w.heap.size + 1) g.hs g.ha rfl (by omega) (by decide) (Tryz.isAgg31 _)) ?_
      rintro r W2 ⟨rfl, hW2⟩
      rw [hW2]
      clear hW2
      clear W2
      by_cases m4 : numAt l a 4 = 1112364030
      · simp [go_sem, m4]
        refine CallP.mono (getN_any (hb.keep0 g.u) (by omega) a 4 2 w.heap.size (w.heap.size + 1) g.hs g.ha rfl (by omega) (by decide) (Tryz.isAgg31 _)) ?_
        rintro r W2 ⟨rfl, hW2⟩
        rw [hW2]
        clear hW2
        clear W2
        by_cases h4 : numAt l (a + 4) 2 = 64
        · simp [go_sem, h4, g.hh]
          refine CallP.mono (headMay_any (getH l a) (getH_ok l a) _) ?_
          rintro r W6 ⟨rfl, u6⟩
          replace g := g.keep u6
          cases hmay : mayL (getH l a) with
          | false =>
            simp [go_sem, g.hh, g.hz, hsz0]
            refine ⟨g.u.setB _ _ (fun h => absurd h (by omega)), ?_⟩
            unfold GetOut
            rw [if_neg h64, if_pos (by simp [badH, hmay])]
          | true =>
            simp [go_sem, g.hh, g.hz, hsz0, a3, hf]
            refine CallP.mono (getN_any (hb.keep0 g.u) (by omega) a 32 4 w.heap.size (w.heap.size + 1) g.hs g.ha rfl (by omega) (by decide) (Tryz.isAgg31 _)) ?_
            rintro r W2 ⟨rfl, hW2⟩
            rw [hW2]
            clear hW2
            clear W2
            by_cases hl0 : numAt l (a + 32) 4 = 0
            · simp [go_sem, g.hh, g.hz, hsz0, hl0]
              refine ⟨g.u.setB _ _ (fun h => absurd h (by omega)), ?_⟩
              unfold GetOut
              rw [if_neg h64, if_neg (by simp [badH, hmay, m4, h4, hf, hl0])]
            · have hl0' : ¬ (numAt l (a + 32) 4 : Int) = 0 := by omega
              simp [go_sem, g.hh, g.hz, hsz0, hl0, hl0']
              refine ⟨g.u.setB _ _ (fun h => absurd h (by omega)), ?_⟩
              unfold GetOut
              rw [if_neg h64, if_pos (by simp [badH, hf, hl0])]
        · have h4' : ¬ (numAt l (a + 4) 2 : Int) = 64 := by omega
          simp [go_sem, g.hh, g.hz, hsz0, h4, h4']
          refine ⟨g.u.setB _ _ (fun h => absurd h (by omega)), ?_⟩
          unfold GetOut
          rw [if_neg h64, if_pos (by simp [badH, h4])]
      · have m4' : ¬ (numAt l a 4 : Int) = 1112364030 := by omega
        simp [go_sem, g.hh, g.hz, hsz0, m4, m4']
        refine ⟨g.u.setB _ _ (fun h => absurd h (by omega)), ?_⟩
        unfold GetOut
        rw [if_neg h64, if_pos (by simp [badH, m4])]
end Go.Proofs.YtinfdomlpbikaaaGreatDoor
