/-
  Numbers as bytes: the program's ends, and the document's.
-/
import Derived.Test.YtinfdomlpbikaaaGreatDoorMsgH
import Derived.Test.YtinfdomlpbikaaaGreatDoorByt
import Derived.Laws.Bits64b
namespace Go.Proofs.YtinfdomlpbikaaaGreatDoor
open Go.Eng
set_option linter.unusedSimpArgs false
set_option linter.unusedVariables false
set_option maxRecDepth 100000
theorem slByte : SlT Tryz.prog 31 5 1 1 :=
  SlT.mk' Tryz.underlying31 (i := Tryz.t5) (z := .int .u8 0) (by kernel_rfl) (by kernel_rfl) (by kernel_rfl) (by kernel_rfl) rfl (by decide)
theorem zByte : ∀ i, Tryz.prog.info? 5 = some i → i.zero = some (.int .u8 0) := by
  intro i hi
  have h : Tryz.prog.info? 5 = some Tryz.t5 := by kernel_rfl
  rw [h] at hi
  cases hi
  exact (by kernel_rfl : Tryz.t5.zero = some (.int .u8 0))
abbrev OwnB (w : World) (base : Nat) (v : Value) (l : List UInt8) : Prop := w.ownsRow base 5 1 v l.length (l.map u8V)
theorem OwnB.at {w : World} {base : Nat} {v : Value} {l : List UInt8} (h : OwnB w base v l) : BytesAt w v l := ⟨RowAt.of_own h, capOk_own h⟩
theorem u8_one (l : List UInt8) : ∀ u ∈ l.map u8V, u.oneCell' = true := by
  intro u hu
  obtain ⟨b, _, rfl⟩ := List.mem_map.1 hu
  rfl
theorem OwnB.append {w : World} {base : Nat} {v s : Value} {l m : List UInt8} (own : OwnB w base v l) (src : BytesAt w s m) (ty : TypeId) (hroom : l.length + m.length ≤ 140737488355328) (hbase : base ≤ w.heap.size) :
    ∃ v' w', (Builtin.append_ #[31, 31] ty #[v, s]).run Tryz.prog w = .ok v' w' ∧ OwnB w' base v' (l ++ m) ∧ w.grownBy w' v.ownBlock := by
  obtain ⟨v', w', h1, h2, h3⟩ := slByte.append_row own src.1 ty (u8_one m) (by omega) (by simp [maxLen]; omega) hbase
  refine ⟨v', w', h1, ?_, h3⟩
  unfold OwnB
  rw [List.length_append, List.map_append]
  exact h2
/-- bytes written out, then appended -/
theorem OwnB.pushN {w : World} {base : Nat} {v : Value} {l : List UInt8} (own : OwnB w base v l) (bs : List UInt8) (ty : TypeId) (hroom : l.length + bs.length ≤ 140737488355328) (hbase : base ≤ w.heap.size) :
    ∃ v' w', (Builtin.append_ #[31, 31] ty #[v, .slice (some ⟨w.heap.size, 0, none⟩) bs.length bs.length]).run Tryz.prog (w.alloc (.cells (bs.map u8V).toArray 5)) = .ok v' w' ∧ OwnB w' base v' (l ++ bs) ∧
      w.heap.size ≤ w'.heap.size ∧ ∀ S w0, Upd S w0 w → w0.heap.size ≤ base → Upd S w0 w' := by
  have ua : Upd noB w (w.alloc (.cells (bs.map u8V).toArray 5)) := (Upd.refl _ _).alloc _
  have own1 : OwnB (w.alloc (.cells (bs.map u8V).toArray 5)) base v l := own_keep0 own ua
  have src : BytesAt (w.alloc (.cells (bs.map u8V).toArray 5)) (.slice (some ⟨w.heap.size, 0, none⟩) bs.length bs.length) bs := by
    refine ⟨⟨by simp, Or.inr ⟨w.heap.size, 0, bs.length, _, _, _, rfl, by rw [heap_alloc, if_pos rfl], by simp, ?_⟩⟩, Nat.le_refl _⟩
    simp
    rw [← List.map_take, List.take_length]
  obtain ⟨v', w', h1, h2, h3⟩ := own1.append src ty hroom (by simp; omega)
  refine ⟨v', w', h1, h2, ?_, fun S w0 hu hb => upd_append own1 (hu.alloc _) hb h3⟩
  have := h3.size
  simp at this
  omega
theorem OwnB.push1 {w : World} {base : Nat} {v : Value} {l : List UInt8} (own : OwnB w base v l) (b : UInt8) (ty : TypeId) (hroom : l.length + 1 ≤ 140737488355328) (hbase : base ≤ w.heap.size) :
    ∃ v' w', (Builtin.append_ #[31, 31] ty #[v, .slice (some ⟨w.heap.size, 0, none⟩) 1 1]).run Tryz.prog (w.alloc (.cells #[u8V b] 5)) = .ok v' w' ∧ OwnB w' base v' (l ++ [b]) ∧
      w.heap.size ≤ w'.heap.size ∧ ∀ S w0, Upd S w0 w → w0.heap.size ≤ base → Upd S w0 w' := own.pushN [b] ty hroom hbase
variable {w : World}
def sizeOk (k : Nat) : Prop := k = 1 ∨ k = 2 ∨ k = 4 ∨ k = 8
instance (k : Nat) : Decidable (sizeOk k) := inferInstanceAs (Decidable (_ ∨ _))
theorem isSize_any (k : Int) (w : World) : CallP Tryz.prog 83 #[.int .i64 k] w (fun r w' => r = .bool (decide (k = 1 ∨ k = 2 ∨ k = 4 ∨ k = 8)) ∧ w' = w) := by
  refine call_den (args := [_]) Tryz.func83 rfl rfl (by simp [Tryz.ntmps83]) ?_
  by_cases h1 : k = 1
  · simp [go_sem, h1]
  · by_cases h2 : k = 2
    · simp [go_sem, h1, h2]
    · by_cases h3 : k = 4
      · simp [go_sem, h1, h2, h3]
      · by_cases h4 : k = 8
        · simp [go_sem, h1, h2, h3, h4]
        · simp [go_sem, h1, h2, h3, h4]
theorem refSize_any (k : Int) (w : World) : CallP Tryz.prog 157 #[.int .i64 k] w (fun r w' => r = .bool (decide (k = 1 ∨ k = 2 ∨ k = 4 ∨ k = 8)) ∧ w' = w) := by
  refine call_den (args := [_]) Tryz.func157 rfl rfl (by simp [Tryz.ntmps157]) ?_
  by_cases h1 : k = 1
  · simp [go_sem, h1]
  · by_cases h2 : k = 2
    · simp [go_sem, h1, h2]
    · by_cases h3 : k = 4
      · simp [go_sem, h1, h2, h3]
      · by_cases h4 : k = 8
        · simp [go_sem, h1, h2, h3, h4]
        · simp [go_sem, h1, h2, h3, h4]
def arrP (n k i : Nat) : Array Value := ((leB n i ++ List.replicate (k - i) 0).map u8V).toArray
theorem arrP_size (n k i : Nat) (h : i ≤ k) : (arrP n k i).size = k := by simp [arrP, leB_len]; omega
theorem arrP_set (n k i : Nat) (h : i < k) : (arrP n k i).setIfInBounds i (.int .u8 (IntKind.u8.wrap ((n : Int) / 256 ^ i))) = arrP n k (i + 1) := by
  have e0 : (n : Int) / 256 ^ i = ((n / 256 ^ i : Nat) : Int) := by simp
  rw [e0]
  have e1 : k - i = (k - (i + 1)) + 1 := by omega
  have e2 : IntKind.u8.wrap ((n / 256 ^ i : Nat) : Int) = (((UInt8.ofNat (n / 256 ^ i)).toNat : Nat) : Int) := by
    simp only [IntKind.wrap, IntKind.bits, IntKind.signed]; simp
  unfold arrP
  rw [e1, List.replicate_succ, leB_snoc, e2]
  simp only [List.map_append, List.map_cons, List.map_nil, List.setIfInBounds_toArray]
  congr 1
  rw [List.set_append_right _ _ (by simp [leB_len])]
  simp [leB_len, u8V]
theorem shr8 (n i : Nat) (hi : i < 8) : (n : Int) / 2 ^ (min (8 * (i : Int)).toNat 64) = (n : Int) / 256 ^ i := by
  have e1 : (8 * (i : Int)).toNat = 8 * i := by omega
  have e2 : min (8 * i) 64 = 8 * i := by omega
  rw [e1, e2, Int.pow_mul]
  rfl
theorem shr8' (n i : Nat) : (n : Int) / 2 ^ (8 * (i : Int)).toNat = (n : Int) / 256 ^ i := by
  have e1 : (8 * (i : Int)).toNat = 8 * i := by omega
  rw [e1, Int.pow_mul]
  rfl
def PutI (w : World) (n : Nat) (k m : Nat) (ρ : Env) (w' : World) : Prop :=
  ∃ i : Nat, m = k - i ∧ i ≤ k ∧ ρ 0 = .int .u64 n ∧ ρ 6 = .slice (some ⟨w.heap.size, 0, none⟩) k k ∧ ρ 26 = .int .i64 k ∧ ρ 27 = .int .i64 i ∧ Upd noB w w' ∧ w'.heap[w.heap.size]? = some (.cells (arrP n k i) 5 (0, 0))
set_option maxHeartbeats 1000000 in
theorem endsPut_any (n : Nat) (k : Nat) (hk : sizeOk k) (h1 : n < 256 ^ k) (w : World) :
    CallP Tryz.prog 56 #[.int .u64 n, .int .i64 k] w (fun r w' => ∃ v, r = .tuple #[v, .int .i64 0] ∧ Upd noB w w' ∧ OwnB w' w.heap.size v (leB n k)) := by
  have hk8 : k ≤ 8 := by unfold sizeOk at hk; omega
  have hk' : ((k : Int) = 1 ∨ (k : Int) = 2 ∨ (k : Int) = 4 ∨ (k : Int) = 8) := by unfold sizeOk at hk; omega
  refine call_den (args := [_, _]) Tryz.func56 rfl rfl (by simp [Tryz.ntmps56]) ?_
  simp [go_sem]
  refine CallP.mono (isSize_any k w) ?_
  rintro r w1 ⟨rfl, rfl⟩
  have hwi : ∀ i : Nat, i ≤ 8 → IntKind.i64.wrap (8 * (i : Int)) = 8 * (i : Int) := fun i hi => wrap64_id (by omega) (by omega)
  have hwu : ∀ i : Nat, i ≤ 8 → IntKind.u64.wrap (8 * (i : Int)) = 8 * (i : Int) := fun i hi => wrap64 (by omega) (by omega)
  have hnn : ∀ i : Nat, 0 ≤ 8 * (i : Int) := fun i => by omega
  have hmk := slByte.makeB (w := w1) zByte k (by omega) .i64 .i64
  have hz0 : (n : Int) / 256 ^ k = 0 := by
    have e : (n : Int) / 256 ^ k = ((n / 256 ^ k : Nat) : Int) := by simp
    rw [e, Nat.div_eq_of_lt h1]
    rfl
  by_cases h8 : (k : Int) < 8
  · simp [go_sem, hk', h8, hwi k hk8, hwu k hk8, hnn k, shr8' n k, hz0, K_makeSlice_ok _ _ _ _ hmk]
    refine den_loop (PutI w1 n k) k ?_ ?_
    · refine ⟨0, rfl, Nat.zero_le _, by simp [go_sem], by simp [go_sem], by simp [go_sem], by simp [go_sem], (Upd.refl _ _).alloc _, ?_⟩
      rw [heap_alloc, if_pos rfl]
      simp [arrP, leB]
    · rintro m ρ w' ⟨i, rfl, hi, g0, g6, g26, g27, hu, hb⟩
      by_cases hlt : i < k
      · have hwr : IntKind.i64.wrap ((i : Int) + 1) = ((i + 1 : Nat) : Int) := wrap64_id (by omega) (by omega)
        have hsz := arrP_size n k i hi
        have hlt' : i < (arrP n k i).size := by omega
        simp [go_sem, g0, g6, g26, g27, hlt, hwi i (by omega), hwu i (by omega), hnn i, shr8 n i (by omega), shr8' n i, hb, hlt', hsz, arrP_set n k i hlt]
        refine ⟨k - (i + 1), by omega, i + 1, rfl, by omega, by simp [go_sem, g0], by simp [go_sem, g6], by simp [go_sem, g26], by simp [go_sem, hwr], hu.setB _ _ (fun h => absurd h (by omega)), ?_⟩
        rw [heap_setB, if_pos rfl, hb]
        rfl
      · have hi' : i = k := by omega
        subst hi'
        simp [go_sem, g0, g6, g26, g27]
        refine ⟨hu, ?_⟩
        have ho := own_block hb (Nat.le_refl _) (arrP_size n i i hi) (by simp [maxLen]; omega)
        have e : (arrP n i i).toList = (leB n i).map u8V := by simp [arrP]
        rw [e] at ho
        unfold OwnB
        rw [leB_len]
        exact ho
  · simp [go_sem, hk', h8, K_makeSlice_ok _ _ _ _ hmk]
    refine den_loop (PutI w1 n k) k ?_ ?_
    · refine ⟨0, rfl, Nat.zero_le _, by simp [go_sem], by simp [go_sem], by simp [go_sem], by simp [go_sem], (Upd.refl _ _).alloc _, ?_⟩
      rw [heap_alloc, if_pos rfl]
      simp [arrP, leB]
    · rintro m ρ w' ⟨i, rfl, hi, g0, g6, g26, g27, hu, hb⟩
      by_cases hlt : i < k
      · have hwr : IntKind.i64.wrap ((i : Int) + 1) = ((i + 1 : Nat) : Int) := wrap64_id (by omega) (by omega)
        have hsz := arrP_size n k i hi
        have hlt' : i < (arrP n k i).size := by omega
        simp [go_sem, g0, g6, g26, g27, hlt, hwi i (by omega), hwu i (by omega), hnn i, shr8 n i (by omega), shr8' n i, hb, hlt', hsz, arrP_set n k i hlt]
        refine ⟨k - (i + 1), by omega, i + 1, rfl, by omega, by simp [go_sem, g0], by simp [go_sem, g6], by simp [go_sem, g26], by simp [go_sem, hwr], hu.setB _ _ (fun h => absurd h (by omega)), ?_⟩
        rw [heap_setB, if_pos rfl, hb]
        rfl
      · have hi' : i = k := by omega
        subst hi'
        simp [go_sem, g0, g6, g26, g27]
        refine ⟨hu, ?_⟩
        have ho := own_block hb (Nat.le_refl _) (arrP_size n i i hi) (by simp [maxLen]; omega)
        have e : (arrP n i i).toList = (leB n i).map u8V := by simp [arrP]
        rw [e] at ho
        unfold OwnB
        rw [leB_len]
        exact ho
def RPutI (w : World) (n : Nat) (k m : Nat) (ρ : Env) (w' : World) : Prop :=
  ∃ (i c : Nat) (v : Value), m = k - i ∧ i ≤ k ∧ c = n / 256 ^ i ∧ ρ 0 = .int .u64 c ∧ ρ 1 = .int .i64 k ∧ ρ 6 = v ∧ ρ 7 = .int .i64 i ∧ Upd noB w w' ∧ OwnB w' w.heap.size v (leB n i)
set_option maxHeartbeats 1000000 in
theorem refPut_any (n : Nat) (k : Nat) (hk : sizeOk k) (h1 : n < 256 ^ k) (w : World) :
    CallP Tryz.prog 96 #[.int .u64 n, .int .i64 k] w (fun r w' => ∃ v, r = .tuple #[v, .int .i64 0] ∧ Upd noB w w' ∧ OwnB w' w.heap.size v (leB n k)) := by
  have hk8 : k ≤ 8 := by unfold sizeOk at hk; omega
  have hk' : ((k : Int) = 1 ∨ (k : Int) = 2 ∨ (k : Int) = 4 ∨ (k : Int) = 8) := by unfold sizeOk at hk; omega
  have hn : n < 18446744073709551616 := Nat.lt_of_lt_of_le h1 (Nat.pow_le_pow_right (by decide) hk8)
  refine call_den (args := [_, _]) Tryz.func96 rfl rfl (by simp [Tryz.ntmps96]) ?_
  simp [go_sem]
  refine CallP.mono (refSize_any k w) ?_
  rintro r w1 ⟨rfl, rfl⟩
  simp [go_sem, hk']
  refine den_loop (RPutI w1 n k) k ?_ ?_
  · exact ⟨0, n, .slice none 0 0, rfl, Nat.zero_le _, by simp, by simp [go_sem], by simp [go_sem], by simp [go_sem], by simp [go_sem], Upd.refl _ _, World.ownsRow_nil _ _ _ _⟩
  · rintro m ρ w' ⟨i, c, v, rfl, hi, hc, g0, g1, g6, g7, hu, own⟩
    by_cases hlt : i < k
    · have hwr : IntKind.i64.wrap ((i : Int) + 1) = ((i + 1 : Nat) : Int) := wrap64_id (by omega) (by omega)
      have hcn : c ≤ n := by rw [hc]; exact Nat.div_le_self _ _
      have hq : IntKind.u64.wrap ((c : Int).tdiv 256) = ((c / 256 : Nat) : Int) := by
        rw [Int.tdiv_eq_ediv_of_nonneg (by omega), wrap64 (by omega) (by omega)]; simp
      obtain ⟨x, hx⟩ : ∃ x : UInt8, x = UInt8.ofNat c := ⟨_, rfl⟩
      have hr : IntKind.u8.wrap ((c : Int).tmod 256) = (x.toNat : Int) := by
        rw [hx, Int.tmod_eq_emod_of_nonneg (by omega), wrap8 (by omega) (by omega)]; simp
      have hb1 := slByte.build1K (w := w') (u8V x) rfl (by decide)
      obtain ⟨v', w2, hrun, own2, hs2, hu2⟩ := own.push1 x 31 (by rw [leB_len]; omega) hu.size
      unfold u8V at hb1 hrun
      have hb1' := fun k => hb1 k
      simp only [Value.cells] at hb1'
      simp [go_sem, g0, g1, g6, g7, hlt, hq, hr, hb1', K_append_ok _ _ _ _ hrun]
      exact ⟨k - (i + 1), by omega, i + 1, c / 256, v', rfl, by omega, by rw [hc, Nat.div_div_eq_div_mul, Nat.pow_succ], by simp [go_sem]; exact wrap64 (by omega) (by omega), by simp [go_sem, g1], by simp [go_sem], by simp [go_sem, hwr], hu2 _ _ hu (Nat.le_refl _), by rw [leB_snoc, ← hc, ← hx]; exact own2⟩
    · have hi' : i = k := by omega
      subst hi'
      have hc0 : c = 0 := by rw [hc]; exact Nat.div_eq_of_lt h1
      simp [go_sem, g0, g1, g6, g7, hc0]
      exact ⟨hu, own⟩
/-! ### reading -/
/-- a place from where k bytes can be read -/
def cutL (l : List UInt8) (at' k : Nat) : List UInt8 := (l.drop at').take k
theorem cut_any {s : Value} {l : List UInt8} (hb : BytesAt w s l) (hl : l.length ≤ 9223372036854775807) (a k : Nat) (h : a + k ≤ l.length) :
    CallP Tryz.prog 104 #[s, .int .i64 a, .int .i64 k] w (fun r w' => ∃ v, r = .tuple #[v, .int .i64 0] ∧ w' = w ∧ BytesAt w v (cutL l a k)) := by
  obtain ⟨p, cap, rfl, hcap⟩ := hb.len
  have hw1 : IntKind.i64.wrap ((l.length : Int) - a) = (l.length : Int) - a := wrap64_id (by omega) (by omega)
  have hw2 : IntKind.i64.wrap ((a : Int) + k) = (a : Int) + k := wrap64_id (by omega) (by omega)
  have n1 : ¬ (a : Int) < 0 := by omega
  have n2 : ¬ l.length < a := by omega
  have n3 : ¬ (k : Int) < 0 := by omega
  have n4 : ¬ (l.length : Int) - a < k := by omega
  have c0 : 0 ≤ (a : Int) + k := by omega
  have c1 : (a : Int) + k ≤ cap := by omega
  have c2 : ((a : Int) + k).toNat = a + k := by omega
  have c3 : max ((a : Int) + k) 0 = (a : Int) + k := by omega
  have c4 : a + k - a = k := by omega
  have key := hb.cut (lo := a) (hi := a + k) (m := a + k) (by omega) h (Nat.le_refl _)
  unfold sliced at key
  rw [c4] at key
  refine call_den (args := [_, _, _]) Tryz.func104 rfl rfl (by simp [Tryz.ntmps104]) ?_
  simp [go_sem, hw1, hw2, n1, n2, n3, n4, c0, c1, c2, c3, c4]
  have e1 : (a + k = a) = (k = 0) := by simp
  simp only [Nat.mul_one, e1] at key
  exact key
theorem cut_out {s : Value} {l : List UInt8} (hb : BytesAt w s l) (hl : l.length ≤ 9223372036854775807) (a k : Nat) (h : l.length < a + k) (hk : k ≤ 9223372036854775807) (ha : a ≤ 9223372036854775807) :
    CallP Tryz.prog 104 #[s, .int .i64 a, .int .i64 k] w (fun r w' => r = .tuple #[.slice none 0 0, .int .i64 (if l.length < a then 2 else 4)] ∧ w' = w) := by
  obtain ⟨p, cap, rfl, hcap⟩ := hb.len
  have n1 : ¬ (a : Int) < 0 := by omega
  have n3 : ¬ (k : Int) < 0 := by omega
  refine call_den (args := [_, _, _]) Tryz.func104 rfl rfl (by simp [Tryz.ntmps104]) ?_
  by_cases n2 : l.length < a
  · simp [go_sem, n1, n2]
  · have hw1 : IntKind.i64.wrap ((l.length : Int) - a) = (l.length : Int) - a := wrap64_id (by omega) (by omega)
    have n4 : (l.length : Int) - a < k := by omega
    simp [go_sem, hw1, n1, n2, n3, n4]
theorem cutL_len (l : List UInt8) (a k : Nat) (h : a + k ≤ l.length) : (cutL l a k).length = k := by unfold cutL; simp; omega
theorem numB_snoc (l : List UInt8) (i : Nat) (hi : i < l.length) : numB (l.take (i + 1)) = numB (l.take i) + 256 ^ i * l[i].toNat := by
  rw [List.take_succ_eq_append_getElem hi, numB_append, List.length_take, Nat.min_eq_left (by omega)]
  simp [numB]
theorem or_digit (x c i : Nat) (hx : x < 256 ^ i) (hc : c < 256) (hi : i < 8) :
    bits .or .u64 (x : Int) (IntKind.u64.wrap (IntKind.u64.wrap (c : Int) * 2 ^ min (IntKind.u64.wrap (IntKind.i64.wrap (8 * (i : Int)))).toNat 64)) = ((x + 256 ^ i * c : Nat) : Int) := by
  have e1 : IntKind.i64.wrap (8 * (i : Int)) = 8 * (i : Int) := wrap64_id (by omega) (by omega)
  have e2 : IntKind.u64.wrap (8 * (i : Int)) = 8 * (i : Int) := wrap64 (by omega) (by omega)
  have e3 : (8 * (i : Int)).toNat = 8 * i := by omega
  have e4 : min (8 * i) 64 = 8 * i := by omega
  have e5 : IntKind.u64.wrap (c : Int) = c := wrap64 (by omega) (by omega)
  have hp : 256 ^ (i + 1) ≤ 256 ^ 8 := Nat.pow_le_pow_right (by decide) (by omega)
  have hp0 : 0 < 256 ^ i := Nat.pow_pos (by decide)
  have hlt : 256 ^ i * c < 18446744073709551616 := by
    have h1 : 256 ^ i * c < 256 ^ i * 256 := Nat.mul_lt_mul_of_pos_left hc hp0
    rw [← Nat.pow_succ] at h1
    exact Nat.lt_of_lt_of_le h1 hp
  have hxl : x < 18446744073709551616 := by
    have h1 : 256 ^ i ≤ 256 ^ (i + 1) := Nat.pow_le_pow_right (by decide) (by omega)
    exact Nat.lt_of_lt_of_le hx (Nat.le_trans h1 hp)
  have e6 : (c : Int) * 2 ^ (8 * i) = ((256 ^ i * c : Nat) : Int) := by
    rw [Int.pow_mul, Nat.mul_comm]; simp
  rw [e1, e2, e3, e4, e5, e6, wrap64 (by omega) (by omega), bits_or_u64_nat x _ hxl hlt]
  congr 1
  have e7 : 256 ^ i = 2 ^ (8 * i) := by rw [Nat.pow_mul]
  rw [e7] at hx ⊢
  rw [Nat.or_comm, ← Nat.two_pow_add_eq_or_of_lt hx, Nat.add_comm]
def GetI (w : World) (v : Value) (q : List UInt8) (k m : Nat) (ρ : Env) (w' : World) : Prop :=
  ∃ i x : Nat, m = k - i ∧ i ≤ k ∧ x = numB (q.take i) ∧ ρ 26 = v ∧ ρ 27 = .int .i64 k ∧ ρ 28 = .int .i64 i ∧ ρ 10 = .int .u64 x ∧ w' = w
set_option maxHeartbeats 1000000 in
theorem endsGet_any {s : Value} {l : List UInt8} (hb : BytesAt w s l) (hl : l.length ≤ 9223372036854775807) (a k : Nat) (h : a + k ≤ l.length) (hk : sizeOk k) :
    CallP Tryz.prog 71 #[s, .int .i64 a, .int .i64 k] w (fun r w' => r = .tuple #[.int .u64 (numB (cutL l a k)), .int .i64 0] ∧ w' = w) := by
  have hk8 : k ≤ 8 := by unfold sizeOk at hk; omega
  have hk' : ((k : Int) = 1 ∨ (k : Int) = 2 ∨ (k : Int) = 4 ∨ (k : Int) = 8) := by unfold sizeOk at hk; omega
  refine call_den (args := [_, _, _]) Tryz.func71 rfl rfl (by simp [Tryz.ntmps71]) ?_
  simp [go_sem]
  refine CallP.mono (isSize_any k w) ?_
  rintro r w1 ⟨rfl, rfl⟩
  simp [go_sem, hk']
  refine CallP.mono (cut_any hb hl a k h) ?_
  rintro r w2 ⟨v, rfl, rfl, hv⟩
  have hq := cutL_len l a k h
  obtain ⟨q, hqe⟩ : ∃ q, q = cutL l a k := ⟨_, rfl⟩
  rw [← hqe] at hv hq ⊢
  obtain ⟨p, cap, rfl, hcap⟩ := hv.len
  simp [go_sem]
  refine den_loop (GetI w2 (.slice p q.length cap) q k) k ?_ ?_
  · exact ⟨0, 0, rfl, Nat.zero_le _, by simp [numB], by simp [go_sem], by simp [go_sem, hq], by simp [go_sem], by simp [go_sem], rfl⟩
  · rintro m ρ w' ⟨i, x, rfl, hi, hx, g26, g27, g28, g10, rfl⟩
    by_cases hlt : i < k
    · have hwr : IntKind.i64.wrap ((i : Int) + 1) = ((i + 1 : Nat) : Int) := wrap64_id (by omega) (by omega)
      obtain ⟨qa, hidx, hld, hK⟩ := hv.at (P := Tryz.prog) (t := 31) (e := 5) Tryz.underlying31 Tryz.sizeOf5 Tryz.isAgg5 i (by omega)
      obtain ⟨c, hc⟩ : ∃ c, c = q[i].toNat := ⟨_, rfl⟩
      rw [← hc] at hK
      simp [go_sem, g26, g27, g28, g10, hlt, hidx, hK]
      refine ⟨k - (i + 1), by omega, i + 1, numB (q.take (i + 1)), rfl, by omega, rfl, by simp [go_sem, g26], by simp [go_sem, g27], by simp [go_sem, hwr], ?_, rfl⟩
      have hx256 : x < 256 ^ i := by
        have := numB_lt (q.take i)
        rw [List.length_take, Nat.min_eq_left (by omega)] at this
        omega
      have hor := or_digit x c i hx256 (by rw [hc]; exact UInt8.toNat_lt _) (by omega)
      rw [numB_snoc q i (by omega), ← hx, ← hc]
      simp only [putE_at, putE_none, if_true, if_false]
      simp [go_sem, g26, g27, g28, g10]
      rw [hor]
      simp
    · have hi' : i = k := by omega
      subst hi'
      simp [go_sem, g26, g27, g28, g10]
      rw [hx, ← hq, List.take_length]
theorem endsGet_out {s : Value} {l : List UInt8} (hb : BytesAt w s l) (hl : l.length ≤ 9223372036854775807) (a k : Nat) (h : l.length < a + k) (hk : sizeOk k) (ha : a ≤ 9223372036854775807) :
    CallP Tryz.prog 71 #[s, .int .i64 a, .int .i64 k] w (fun r w' => r = .tuple #[.int .u64 0, .int .i64 (if l.length < a then 2 else 4)] ∧ w' = w) := by
  have hk' : ((k : Int) = 1 ∨ (k : Int) = 2 ∨ (k : Int) = 4 ∨ (k : Int) = 8) := by unfold sizeOk at hk; omega
  have hk8 : k ≤ 8 := by unfold sizeOk at hk; omega
  have he : ¬ (if l.length < a then (2 : Int) else 4) = 0 := by split <;> decide
  refine call_den (args := [_, _, _]) Tryz.func71 rfl rfl (by simp [Tryz.ntmps71]) ?_
  simp [go_sem]
  refine CallP.mono (isSize_any k w) ?_
  rintro r w1 ⟨rfl, rfl⟩
  simp [go_sem, hk']
  refine CallP.mono (cut_out hb hl a k h (by omega) ha) ?_
  rintro r w2 ⟨rfl, rfl⟩
  simp [go_sem, he]
theorem numB_drop (l : List UInt8) (i : Nat) (hi : i < l.length) : numB (l.drop i) = l[i].toNat + 256 * numB (l.drop (i + 1)) := by
  rw [List.drop_eq_getElem_cons hi]; rfl
def RGetI (w : World) (v : Value) (q : List UInt8) (a m : Nat) (ρ : Env) (w' : World) : Prop :=
  ∃ x : Nat, m ≤ q.length ∧ x = numB (q.drop m) ∧ ρ 0 = v ∧ ρ 1 = .int .i64 a ∧ ρ 9 = .int .i64 ((m : Int) - 1) ∧ ρ 8 = .int .u64 x ∧ w' = w
set_option maxHeartbeats 1000000 in
theorem refGet_any {s : Value} {l : List UInt8} (hb : BytesAt w s l) (hl : l.length ≤ 9223372036854775807) (a k : Nat) (h : a + k ≤ l.length) (hk : sizeOk k) :
    CallP Tryz.prog 105 #[s, .int .i64 a, .int .i64 k] w (fun r w' => r = .tuple #[.int .u64 (numB (cutL l a k)), .int .i64 0] ∧ w' = w) := by
  have hk8 : k ≤ 8 := by unfold sizeOk at hk; omega
  have hk' : ((k : Int) = 1 ∨ (k : Int) = 2 ∨ (k : Int) = 4 ∨ (k : Int) = 8) := by unfold sizeOk at hk; omega
  have hw1 : IntKind.i64.wrap ((l.length : Int) - a) = (l.length : Int) - a := wrap64_id (by omega) (by omega)
  have hw2 : IntKind.i64.wrap ((k : Int) - 1) = (k : Int) - 1 := wrap64_id (by omega) (by omega)
  have n1 : ¬ (a : Int) < 0 := by omega
  have n2 : ¬ l.length < a := by omega
  have n4 : ¬ (l.length : Int) - a < k := by omega
  have hq := cutL_len l a k h
  obtain ⟨p, cap, rfl, hcap⟩ := hb.len
  refine call_den (args := [_, _, _]) Tryz.func105 rfl rfl (by simp [Tryz.ntmps105]) ?_
  simp [go_sem]
  refine CallP.mono (refSize_any k w) ?_
  rintro r w1 ⟨rfl, rfl⟩
  simp [go_sem, hk', hw1, hw2, n1, n2, n4]
  refine den_loop (RGetI w1 (.slice p l.length cap) (cutL l a k) a) k ?_ ?_
  · refine ⟨0, by omega, ?_, by simp [go_sem], by simp [go_sem], by simp [go_sem], by simp [go_sem], rfl⟩
    rw [List.drop_of_length_le (by omega)]; rfl
  · rintro m ρ w' ⟨x, hm, hx, g0, g1, g9, g8, rfl⟩
    cases m with
    | zero =>
      simp [go_sem, g0, g1, g9, g8]
      rw [hx]; rfl
    | succ m =>
      have hlt : a + m < l.length := by omega
      have hwr : IntKind.i64.wrap ((m : Int) - 1) = (m : Int) - 1 := wrap64_id (by omega) (by omega)
      have hwa : IntKind.i64.wrap ((a : Int) + m) = (a : Int) + m := wrap64_id (by omega) (by omega)
      obtain ⟨qa, hidx, hld, hK⟩ := hb.at (P := Tryz.prog) (t := 31) (e := 5) Tryz.underlying31 Tryz.sizeOf5 Tryz.isAgg5 (a + m) hlt
      have hge : (cutL l a k)[m]'(by omega) = l[a + m] := by simp [cutL]
      obtain ⟨c, hc⟩ : ∃ c, c = l[a + m].toNat := ⟨_, rfl⟩
      rw [← hc] at hK
      simp only [Int.natCast_add] at hidx
      have hc256 : c < 256 := by rw [hc]; exact UInt8.toNat_lt _
      have hnum : numB ((cutL l a k).drop m) = c + 256 * x := by rw [numB_drop _ m (by omega), hge, ← hc, ← hx]
      have hlt2 : c + 256 * x < 18446744073709551616 := by
        have h1 := numB_lt ((cutL l a k).drop m)
        rw [hnum] at h1
        have h2 : 256 ^ ((cutL l a k).drop m).length ≤ 256 ^ 8 := Nat.pow_le_pow_right (by decide) (by simp; omega)
        exact Nat.lt_of_lt_of_le h1 h2
      have e1 : IntKind.u64.wrap (256 * (x : Int)) = 256 * x := wrap64 (by omega) (by omega)
      have e2 : IntKind.u64.wrap (c : Int) = c := wrap64 (by omega) (by omega)
      have e3 : IntKind.u64.wrap (256 * (x : Int) + c) = 256 * x + c := wrap64 (by omega) (by omega)
      have g9' : ρ 9 = .int .i64 (m : Int) := by rw [g9]; simp
      have hm0 : 0 ≤ (m : Int) := by omega
      simp [go_sem, g0, g1, g9', g8, hwa, hidx, hK, e1, e2, e3, hm0]
      exact ⟨m, by omega, c + 256 * x, by omega, hnum.symm, by simp [go_sem, g0], by simp [go_sem, g1], by simp [go_sem, hwr], by simp [go_sem]; omega, rfl⟩
end Go.Proofs.YtinfdomlpbikaaaGreatDoor
