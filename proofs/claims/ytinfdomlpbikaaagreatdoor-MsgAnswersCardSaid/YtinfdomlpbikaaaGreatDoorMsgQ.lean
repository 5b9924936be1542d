/-
  Heads: compared; which may be.
-/
import Derived.Test.YtinfdomlpbikaaaGreatDoorMsgP
namespace Go.Proofs.YtinfdomlpbikaaaGreatDoor
open Go.Eng
set_option linter.unusedSimpArgs false
set_option linter.unusedVariables false
set_option maxRecDepth 100000
variable {w w0 : World}
def eqH (g h : HeadV) : Bool :=
  g.charge == h.charge && (g.status == h.status && (g.command == h.command && (g.credits == h.credits && (g.flags == h.flags && (g.next == h.next && (g.id == h.id && (g.async == h.async && (g.tree == h.tree && (g.session == h.session && g.sign.1 == h.sign.1)))))))))
theorem eqH_iff (g h : HeadV) : eqH g h = true ↔ g = h := by
  cases g; cases h
  simp [eqH]
  intros
  exact Subtype.ext_iff.symm
theorem part_one {t : TypeId} {xs : Array Value} {o : Nat} {v : Value} (ha : (isAgg t).run Tryz.prog w = .ok false w) (hx : xs[o]? = some v) : (part t xs o).run Tryz.prog w = .ok v w := by
  simp [part, ha, hx]
@[go_sem] theorem head_sign (h : HeadV) : h.cells.extract 10 26 = (h.sign.1.map u8V).toArray := by
  have e : h.row.drop 10 = h.sign.1.map u8V := rfl
  apply Array.toList_inj.1
  simp [HeadV.cells, e, List.take_of_length_le, h.sign.2]
@[go_sem] theorem eql_arr16 (a b : Arr 16) (w : World) : (Op.equalIn 9999 26 (.agg (a.1.map u8V).toArray) (.agg (b.1.map u8V).toArray)).run Tryz.prog w = .ok (a.1 == b.1) w :=
  eql_bytes (i := Tryz.t5) Tryz.underlying26 (by kernel_rfl) Tryz.underlying5 Tryz.isAgg5 (by kernel_rfl) 9997 a.1 b.1 a.2 b.2
@[go_sem high] theorem eql_head (g h : HeadV) (w : World) : (binOp .eql 28 (.agg g.cells) (.agg h.cells)).run Tryz.prog w = .ok (.bool (eqH g h)) w := by
  rw [run_eql_struct]
  simp [go_sem]
  unfold eqH
  by_cases h1 : g.charge = h.charge <;> by_cases h2 : g.status = h.status <;> simp [h1, h2]
  by_cases h3 : g.command = h.command <;> by_cases h4 : g.credits = h.credits <;> simp [h3, h4]
  by_cases h5 : g.flags = h.flags <;> by_cases h6 : g.next = h.next <;> simp [h5, h6]
  by_cases h7 : g.id = h.id <;> by_cases h8 : g.async = h.async <;> simp [h7, h8]
  by_cases h9 : g.tree = h.tree <;> by_cases h10 : g.session = h.session <;> simp [h9, h10]
  cases hs : (g.sign.1 == h.sign.1) <;> simp <;> simpa using hs
/-! ### may -/
def mayL (h : HeadV) : Bool := knownL h.command && (decide (h.flags < 16) && (if hasF h.flags 2 then decide (h.tree = 0) else decide (h.async = 0)))
set_option maxHeartbeats 1000000 in
theorem refMay_any (h : HeadV) (ok : h.ok) (w : World) : CallP Tryz.prog 23 #[.agg h.cells] w (fun r w' => r = .bool (mayL h) ∧ Upd noB w w') := by
  have ub : Upd noB w (w.alloc (.cells h.cells 28)) := (Upd.refl _ _).alloc _
  obtain ⟨wb, hwb⟩ : ∃ wb, wb = w.alloc (.cells h.cells 28) := ⟨_, rfl⟩
  have hb : wb.heap[w.heap.size]? = some (.cells h.cells 28 (0, 0)) := by rw [hwb, heap_alloc, if_pos rfl]
  refine call_den (args := [_]) Tryz.func23 rfl rfl (by simp [Tryz.ntmps23]) ?_
  simp [go_sem]
  rw [← hwb] at ub ⊢
  refine CallP.mono (refKnown_any h.command ok.command.1 wb) ?_
  rintro r w1 ⟨rfl, u1⟩
  have hb1 := u1.get hb (by simp [noB])
  unfold mayL
  cases hk : knownL h.command with
  | false =>
    simp [go_sem]
    exact ub.trans u1
  | true =>
    by_cases h16 : h.flags < 16
    · have hn : ¬ 16 ≤ h.flags := by omega
      simp [go_sem, hb1, hn, h16]
      refine CallP.mono (has_any h 2 (by decide) ok.flags w1) ?_
      rintro r w2 ⟨rfl, u2⟩
      have hb2 := u2.get hb1 (by simp [noB])
      by_cases hf : hasF h.flags 2
      · simp [go_sem, hb2, hf]
        exact ⟨by rfl, (ub.trans u1).trans u2⟩
      · simp [go_sem, hb2, hf]
        exact ⟨by rfl, (ub.trans u1).trans u2⟩
    · have hn : 16 ≤ h.flags := by omega
      simp [go_sem, hb1, hn, h16]
      exact ub.trans u1
/-! ### bits -/
theorem and32 (a b : Nat) (ha : a < 4294967296) (hb : b < 4294967296) : bits .and .u32 (a : Int) (b : Int) = ((a &&& b : Nat) : Int) := by
  have hx : a &&& b < 2 ^ 32 := Nat.and_lt_two_pow _ (by omega)
  have h1 : (BitVec.ofInt 32 (a : Int)).toNat = a := by
    rw [BitVec.ofInt_natCast, BitVec.toNat_ofNat]; exact Nat.mod_eq_of_lt (by omega)
  have h2 : (BitVec.ofInt 32 (b : Int)).toNat = b := by
    rw [BitVec.ofInt_natCast, BitVec.toNat_ofNat]; exact Nat.mod_eq_of_lt (by omega)
  show IntKind.u32.wrap ((BitVec.ofInt 32 (a : Int) &&& BitVec.ofInt 32 (b : Int)).toNat : Int) = _
  rw [BitVec.toNat_and, h1, h2, wrap32 (by omega) (by omega)]
theorem and_15 {f : Int} (h0 : 0 ≤ f) (h1 : f < 4294967296) : bits .and .u32 f 15 = f % 16 := by
  obtain ⟨n, rfl⟩ := Int.eq_ofNat_of_zero_le h0
  have e : n &&& 15 = n % 16 := Nat.and_two_pow_sub_one_eq_mod n 4
  exact (and32 n 15 (by omega) (by omega)).trans (by rw [e]; omega)
theorem nat_and_pow (n i : Nat) : n &&& 2 ^ i = if n.testBit i then 2 ^ i else 0 := by
  apply Nat.eq_of_testBit_eq
  intro j
  rw [Nat.testBit_and, Nat.testBit_two_pow]
  by_cases h : i = j
  · subst h
    cases hb : n.testBit i <;> simp [Nat.testBit_two_pow]
  · cases hb : n.testBit i <;> simp [h, Nat.testBit_two_pow]
theorem and_pow {f : Int} (h0 : 0 ≤ f) (h1 : f < 4294967296) (i : Nat) (hi : i < 32) : bits .and .u32 f ((2 ^ i : Nat) : Int) = if hasF f ((2 ^ i : Nat) : Int) then ((2 ^ i : Nat) : Int) else 0 := by
  obtain ⟨n, rfl⟩ := Int.eq_ofNat_of_zero_le h0
  have hp : 2 ^ i < 2 ^ 32 := Nat.pow_lt_pow_right (by decide) hi
  rw [and32 n (2 ^ i) (by omega) (by omega), nat_and_pow, Nat.testBit_eq_decide_div_mod_eq]
  have e : hasF (n : Int) ((2 ^ i : Nat) : Int) ↔ n / 2 ^ i % 2 = 1 := by
    unfold hasF
    rw [← Int.natCast_ediv]
    omega
  by_cases h : n / 2 ^ i % 2 = 1
  · rw [if_pos (e.2 h)]
    simp [h]
  · rw [if_neg (fun g => h (e.1 g))]
    simp [h]
theorem and_1 {f : Int} (h0 : 0 ≤ f) (h1 : f < 4294967296) : bits .and .u32 f 1 = if hasF f 1 then 1 else 0 := and_pow h0 h1 0 (by decide)
theorem and_2 {f : Int} (h0 : 0 ≤ f) (h1 : f < 4294967296) : bits .and .u32 f 2 = if hasF f 2 then 2 else 0 := and_pow h0 h1 1 (by decide)
theorem and_4 {f : Int} (h0 : 0 ≤ f) (h1 : f < 4294967296) : bits .and .u32 f 4 = if hasF f 4 then 4 else 0 := and_pow h0 h1 2 (by decide)
theorem and_8 {f : Int} (h0 : 0 ≤ f) (h1 : f < 4294967296) : bits .and .u32 f 8 = if hasF f 8 then 8 else 0 := and_pow h0 h1 3 (by decide)
theorem may_t (h : HeadV) (ok : h.ok) (hf : hasF h.flags 2) (hk : knownL h.command = true) : eqH { h with tree := 0, flags := h.flags % 16 } h = mayL h := by
  have := ok.flags
  unfold mayL
  rw [hk, if_pos hf, Bool.eq_iff_iff]
  simp [eqH]
  omega
theorem may_f (h : HeadV) (ok : h.ok) (hf : ¬ hasF h.flags 2) (hk : knownL h.command = true) : eqH { h with async := 0, flags := h.flags % 16 } h = mayL h := by
  have := ok.flags
  unfold mayL
  rw [hk, if_neg hf, Bool.eq_iff_iff]
  simp [eqH]
  omega
def HBox (b : Nat) (h : HeadV) (W : World) : Prop := W.heap[b]? = some (.cells h.cells 28 (0, 0))
set_option maxHeartbeats 1000000 in
theorem headMay_any (h : HeadV) (ok : h.ok) (w : World) : CallP Tryz.prog 54 #[.agg h.cells] w (fun r w' => r = .bool (mayL h) ∧ Upd noB w w') := by
  have hsz := h.size
  have a15 := and_15 ok.flags.1 ok.flags.2
  have a2 := and_2 ok.flags.1 ok.flags.2
  obtain ⟨wb, hwb⟩ : ∃ wb, wb = w.alloc (.cells h.cells 28) := ⟨_, rfl⟩
  have hb : wb.heap[w.heap.size]? = some (.cells h.cells 28 (0, 0)) := by rw [hwb, heap_alloc, if_pos rfl]
  have ub : Upd noB w wb := by rw [hwb]; exact (Upd.refl _ _).alloc _
  refine call_den (args := [_]) Tryz.func54 rfl rfl (by simp [Tryz.ntmps54]) ?_
  simp [go_sem]
  rw [← hwb]
  have hs : wb.heap.size = w.heap.size + 1 := by rw [hwb]; simp
  have hbg := fun hp => get_of hb hp
  by_cases hf : hasF h.flags 2
  · simp [go_sem, hb, hbg, hs, a2, hf, a15]
    refine CallP.mono (headKnown_any h.command _) ?_
    rintro r w1 ⟨rfl, hw1⟩
    have u1 : Upd noB wb w1 := by
      rw [hw1]
      exact ((((Upd.refl noB wb).alloc _).setB _ _ (fun h => absurd h (by omega))).setB _ _ (fun h => absurd h (by omega))).setB _ _ (fun h => absurd h (by omega))
    cases hk : knownL h.command with
    | false =>
      simp [go_sem]
      exact ⟨by unfold mayL; rw [hk]; rfl, ub.trans u1⟩
    | true =>
      subst hw1
      simp [go_sem, hb, hbg, hs]
      exact ⟨may_t h ok hf hk, ub.trans u1⟩
  · simp [go_sem, hb, hbg, hs, a2, hf, a15]
    refine CallP.mono (headKnown_any h.command _) ?_
    rintro r w1 ⟨rfl, hw1⟩
    have u1 : Upd noB wb w1 := by
      rw [hw1]
      exact ((((Upd.refl noB wb).alloc _).setB _ _ (fun h => absurd h (by omega))).setB _ _ (fun h => absurd h (by omega))).setB _ _ (fun h => absurd h (by omega))
    cases hk : knownL h.command with
    | false =>
      simp [go_sem]
      exact ⟨by unfold mayL; rw [hk]; rfl, ub.trans u1⟩
    | true =>
      subst hw1
      simp [go_sem, hb, hbg, hs]
      exact ⟨may_f h ok hf hk, ub.trans u1⟩
end Go.Proofs.YtinfdomlpbikaaaGreatDoor
