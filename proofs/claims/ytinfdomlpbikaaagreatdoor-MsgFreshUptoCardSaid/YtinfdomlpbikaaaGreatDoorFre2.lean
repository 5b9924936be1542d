/-
  What came in: a head.
  What came in: a list of bytes.
  Numbers as bytes: the program's ends, and the document's.
  Texts: their letters, by the document's words and by the model's decoder; as units of 16 bits, and back. No program in sight.
  The document's letters: where one begins, and what it is.
  The document's letters of a text, and its bytes.
  The document's bytes of a text.
  The document's bytes of a text.
  DERIVED: THE SHELF's CONTRACTS AT THIS DUMP, IN PLAIN WORDS (tools/lay-plain.mjs out of 'YtinfdomlpbikaaaGreatDoorMShelfSoft.lean', which tools/lay-shelf.mjs wrote): THE SAME DECLARATIONS UNDER THE SAME NAMES: 'import', 'namespace', 'open', 'def', 'theorem' AND NOTHING ELSE: no command of the shelf's: FOR A HAND-IN. Each laying: the table of numbers ('.._ren') and one theorem, a field a fact of the dump's own or the kernel's comparison; each contract: ONE APPLICATION.
  The program's bytes of a text: whether it is one; its letters in turn.
  The program's bytes of a text.
  A letter's bytes: the document's, and the library's AppendRune.
  The text of bytes: the document's.
  The text of bytes: the program's.
  Rows and texts' rows: put, by the program and by the document.
  Rows and texts' rows: read, by the program and by the document.
-/
import Derived.Test.YtinfdomlpbikaaaGreatDoorFre1
import Derived.Laws.Bits64b
import Derived.Lib.ValidLaws
import Derived.Maps.AppendAt
import Derived.Shelf.Unicode.ValidAny
import Derived.Ground.NamesProg
import Derived.Test.YtinfdomlpbikaaaGreatDoorProg
import Derived.Laws.RangeAny
import Derived.Laws.BitsAllLaws
import Derived.Laws.IdiomStrings
import Derived.Lib.LazyBuf
namespace Go.Proofs.YtinfdomlpbikaaaGreatDoor
open Go Go.Eng Go.ChangeShapes Go.WideShapes Go.RowKit
set_option linter.unusedSimpArgs false
set_option linter.unusedVariables false
set_option maxRecDepth 100000
section
variable {H : Type} {enc : TypeId × Value → H} {w : World} {base : Nat} {spare : Nat → Bool} {held : Bool} {fuel : Nat} {cs : List Value} {x : DataW H × List MemPlace}
theorem wf_u8 {n : Int} (h : (Lit.int .u8 n).wf = true) : 0 ≤ n ∧ n < 256 := by simp [Lit.wf, IntKind.min, IntKind.max, IntKind.signed, IntKind.bits] at h; omega
theorem wf_u16 {n : Int} (h : (Lit.int .u16 n).wf = true) : 0 ≤ n ∧ n < 65536 := by simp [Lit.wf, IntKind.min, IntKind.max, IntKind.signed, IntKind.bits] at h; omega
theorem wf_u32 {n : Int} (h : (Lit.int .u32 n).wf = true) : 0 ≤ n ∧ n < 4294967296 := by simp [Lit.wf, IntKind.min, IntKind.max, IntKind.signed, IntKind.bits] at h; omega
theorem wf_u64 {n : Int} (h : (Lit.int .u64 n).wf = true) : 0 ≤ n ∧ n < 18446744073709551616 := by simp [Lit.wf, IntKind.min, IntKind.max, IntKind.signed, IntKind.bits] at h; omega
theorem u8_of {n : Int} (h : 0 ≤ n ∧ n < 256) : Value.int .u8 n = u8V (UInt8.ofNat n.toNat) := by
  unfold u8V
  have : ((UInt8.ofNat n.toNat).toNat : Int) = n := by simp; omega
  rw [this]
/-- an array of bytes -/
theorem open_arr {t e : TypeId} {n : Nat} (ht : Tryz.prog.underlying t = some (.array n e)) (he : Tryz.prog.underlying e = some (.int .u8)) (hce : Tryz.prog.cellsOf e = 1) (hct : Tryz.prog.cellsOf t = n)
    (h : DataW.trod enc Tryz.prog w base spare held fuel t cs = some x) : ∃ a : Arr n, cs = a.1.map u8V := by
  obtain ⟨xs, m, _, _, hlen, hxs, hx⟩ := DataW.trod_array ht h
  rw [hct] at hlen
  have key : ∀ i, i < n → ∃ b : UInt8, cs[i]? = some (u8V b) := by
    intro i hi
    have h1 := hx i hi
    rw [List.getElem?_eq_getElem (by omega), hce] at h1
    obtain ⟨z, h2, _, h3⟩ := DataW.trod_int he h1
    refine ⟨UInt8.ofNat z.toNat, ?_⟩
    have h4 := congrArg (fun l => l[0]?) h2
    rw [← u8_of (wf_u8 h3)]
    simpa [List.getElem?_take, List.getElem?_drop] using h4
  have key2 : ∀ (l : List Value), (∀ i, i < l.length → ∃ b : UInt8, l[i]? = some (u8V b)) → ∃ a : List UInt8, a.length = l.length ∧ l = a.map u8V := by
    intro l
    induction l with
    | nil => intro _; exact ⟨[], rfl, rfl⟩
    | cons v l ih =>
      intro hh
      obtain ⟨b, hb⟩ := hh 0 (by simp)
      obtain ⟨a, ha, hl⟩ := ih (fun i hi => by simpa using hh (i + 1) (by simpa using hi))
      refine ⟨b :: a, by simp [ha], ?_⟩
      simp at hb
      simp [hb, ← hl]
  obtain ⟨a, ha, hl⟩ := key2 cs (fun i hi => key i (by omega))
  exact ⟨⟨a, by omega⟩, hl⟩
/-- a struct's field, as cells of its own -/
theorem field_any {t : TypeId} {fs : Array Field} (ht : Tryz.prog.underlying t = some (.struct fs)) (h : DataW.trod enc Tryz.prog w base spare held fuel t cs = some x) (i : Nat) {f : Field} (hf : fs[i]? = some f) :
    ∃ m y, DataW.trod enc Tryz.prog w base spare held m f.type ((cs.drop f.offset).take (Tryz.prog.cellsOf f.type)) = some y := by
  obtain ⟨xs, n, _, _, _, hlen, hx⟩ := DataW.trod_struct ht h
  have h1 := hx i f hf
  have hi := (Array.getElem?_eq_some_iff.1 hf).1
  rw [List.getElem?_eq_getElem (by omega)] at h1
  exact ⟨_, _, h1⟩
theorem open_head (h : DataW.trod enc Tryz.prog w base spare held fuel 28 cs = some x) : ∃ g : HeadV, g.ok ∧ cs = g.row := by
  have hu := Tryz.underlying28
  obtain ⟨n0, g0, w0⟩ := field_int hu h 0 rfl Tryz.underlying22 (by kernel_rfl)
  obtain ⟨n1, g1, w1⟩ := field_int hu h 1 rfl Tryz.underlying23 (by kernel_rfl)
  obtain ⟨n2, g2, w2⟩ := field_int hu h 2 rfl Tryz.underlying24 (by kernel_rfl)
  obtain ⟨n3, g3, w3⟩ := field_int hu h 3 rfl Tryz.underlying22 (by kernel_rfl)
  obtain ⟨n4, g4, w4⟩ := field_int hu h 4 rfl Tryz.underlying23 (by kernel_rfl)
  obtain ⟨n5, g5, w5⟩ := field_int hu h 5 rfl Tryz.underlying23 (by kernel_rfl)
  obtain ⟨n6, g6, w6⟩ := field_int hu h 6 rfl Tryz.underlying25 (by kernel_rfl)
  obtain ⟨n7, g7, w7⟩ := field_int hu h 7 rfl Tryz.underlying25 (by kernel_rfl)
  obtain ⟨n8, g8, w8⟩ := field_int hu h 8 rfl Tryz.underlying23 (by kernel_rfl)
  obtain ⟨n9, g9, w9⟩ := field_int hu h 9 rfl Tryz.underlying25 (by kernel_rfl)
  obtain ⟨m, y, ha⟩ := field_any hu h 10 rfl
  obtain ⟨s, hs⟩ := open_arr (n := 16) Tryz.underlying26 Tryz.underlying5 (by kernel_rfl) (by kernel_rfl) ha
  obtain ⟨_, _, _, _, hlen, _, _⟩ := DataW.trod_struct hu h
  have hl : cs.length = 26 := hlen.trans (by kernel_rfl)
  have hs' : (cs.drop 10).take 16 = s.1.map u8V := by
    have e : Tryz.prog.cellsOf 26 = 16 := by kernel_rfl
    have h2 : (cs.drop 10).take (Tryz.prog.cellsOf 26) = s.1.map u8V := hs
    rwa [e] at h2
  refine ⟨⟨n0, n1, n2, n3, n4, n5, n6, n7, n8, n9, s⟩, ⟨wf_u16 w0, wf_u32 w1, wf_u16 w2, wf_u16 w3, wf_u32 w4, wf_u32 w5, wf_u64 w6, wf_u64 w7, wf_u32 w8, wf_u64 w9⟩, ?_⟩
  have hd : cs.drop 10 = s.1.map u8V := by rw [← hs', List.take_of_length_le (by simp; omega)]
  have e10 : cs = cs.take 10 ++ cs.drop 10 := (List.take_append_drop 10 cs).symm
  rw [e10, hd]
  show _ = _ ++ _
  congr 1
  match cs, hl, g0, g1, g2, g3, g4, g5, g6, g7, g8, g9 with
  | c0 :: c1 :: c2 :: c3 :: c4 :: c5 :: c6 :: c7 :: c8 :: c9 :: r, _, g0, g1, g2, g3, g4, g5, g6, g7, g8, g9 =>
    simp at g0 g1 g2 g3 g4 g5 g6 g7 g8 g9
    simp [*]
/-- a struct that came in by value -/
theorem open_agg {r : Reach} {b0 : Nat} {t : TypeId} {fs : Array Field} {v : Value} {d : DataW H} {p : List MemPlace} {sp : Nat → Bool} (hs : Tryz.prog.underlying t = some (.struct fs)) (hv : Value.okWide Tryz.prog w r b0 t v) (h : DataW.Trod enc Tryz.prog w base sp held t v d p) :
    ∃ (l : List Value) (m : Nat), v = .agg l.toArray ∧ DataW.trod enc Tryz.prog w base sp held m t l = some (d, p) := by
  obtain ⟨cs, rfl, hsz⟩ := okWide_struct hs hv
  obtain ⟨m, hm⟩ := h
  exact ⟨cs.toList, m, by simp, hm⟩
end
end Go.Proofs.YtinfdomlpbikaaaGreatDoor
namespace Go.Proofs.YtinfdomlpbikaaaGreatDoor
open Go Go.Eng Go.ChangeShapes Go.WideShapes Go.RowKit
set_option linter.unusedSimpArgs false
set_option linter.unusedVariables false
set_option maxRecDepth 100000
section
variable {H : Type} {enc : TypeId × Value → H} {w : World} {held : Bool} {fuel : Nat} {cs : List Value} {x : DataW H × List MemPlace}
theorem flat_one {n : Nat} {rows : Nat → List Value} (h : ∀ i, i < n → ∃ b : UInt8, rows i = [u8V b]) : ∃ l : List UInt8, l.length = n ∧ (List.range n).flatMap rows = l.map u8V := by
  induction n with
  | zero => exact ⟨[], rfl, rfl⟩
  | succ n ih =>
    obtain ⟨l, hl, he⟩ := ih (fun i hi => h i (by omega))
    obtain ⟨b, hb⟩ := h n (by omega)
    refine ⟨l ++ [b], by simp [hl], ?_⟩
    rw [List.range_succ, List.flatMap_append, he]
    simp [hb]
theorem open_bytes {t e : TypeId} (ht : Tryz.prog.underlying t = some (.slice e)) (he : Tryz.prog.underlying e = some (.int .u8)) (hc : Tryz.prog.cellsOf e = 1)
    (h : DataW.trod enc Tryz.prog w 0 (fun _ => true) held fuel t cs = some x) :
    ∃ v l, cs = [v] ∧ BytesAt w v l ∧ (l = [] ∨ ∃ elems spare, x.1 = .slice elems spare ∧ elems.length = l.length) := by
  obtain ⟨v, n, rows, rfl, hr, hn, hrow⟩ := open_rows ht hc (by omega) h
  obtain ⟨l, hl, hf⟩ := flat_one (n := n) (rows := rows) (fun i hi => by
    obtain ⟨h1, m, y, hy⟩ := hrow i hi
    obtain ⟨z, h2, _, h3⟩ := DataW.trod_int he hy
    exact ⟨UInt8.ofNat z.toNat, by rw [← u8_of (wf_u8 h3)]; exact h2⟩)
  rw [hf] at hr
  subst hl
  rcases Deep.open_slice ht h with ⟨h0, hx⟩ | ⟨a, len, cap, m, k, D, Pl, h0, _, hlc, _, _, hx, _⟩
  · obtain rfl : v = .slice none 0 0 := by simpa using h0
    refine ⟨_, l, rfl, ⟨hr, Nat.le_refl _⟩, Or.inl ?_⟩
    rcases hr.2 with ⟨p, c, hv, h1⟩ | ⟨b, off, c, cc, te, f, hv, _⟩
    · exact List.length_eq_zero_iff.1 h1
    · cases hv
  · obtain rfl : v = .slice (some a) len cap := by simpa using h0
    refine ⟨_, l, rfl, ⟨hr, hlc⟩, Or.inr ⟨_, _, by rw [hx], ?_⟩⟩
    have : l.length = len := by
      rcases hr.2 with ⟨p, c, hv, h1⟩ | ⟨b, off, c, cc, te, f, hv, _⟩
      · injection hv with _ h2 _; omega
      · injection hv with _ h2 _; omega
    simp [this]
end
end Go.Proofs.YtinfdomlpbikaaaGreatDoor
namespace Go.Proofs.YtinfdomlpbikaaaGreatDoor
open Go.Eng
set_option linter.unusedSimpArgs false
set_option linter.unusedVariables false
set_option maxRecDepth 100000
theorem slByte : SlT Tryz.prog 31 5 1 1 :=
  SlT.mk' Tryz.underlying31 (i := Tryz.t5) (z := .int .u8 0) (by kernel_rfl) (by kernel_rfl) (by kernel_rfl) (by kernel_rfl) rfl (by decide)
theorem zByte : ∀ i, Tryz.prog.info? 5 = some i → i.zero = some (.int .u8 0) := by
  intro i hi
  have h : Tryz.prog.info? 5 = some Tryz.t5 := by kernel_rfl
  rw [h] at hi
  cases hi
  exact (by kernel_rfl : Tryz.t5.zero = some (.int .u8 0))
abbrev OwnB (w : World) (base : Nat) (v : Value) (l : List UInt8) : Prop := w.ownsX base 5 1 v l.length (l.map u8V)
theorem OwnB.at {w : World} {base : Nat} {v : Value} {l : List UInt8} (h : OwnB w base v l) : BytesAt w v l := ⟨RowAt.of_own h, capOk_own h⟩
theorem u8_one (l : List UInt8) : ∀ u ∈ l.map u8V, u.oneCell' = true := by
  intro u hu
  obtain ⟨b, _, rfl⟩ := List.mem_map.1 hu
  rfl
theorem OwnB.append {w : World} {base : Nat} {v s : Value} {l m : List UInt8} (own : OwnB w base v l) (src : BytesAt w s m) (ty : TypeId) (hroom : l.length + m.length ≤ 140737488355328) (hbase : base ≤ w.heap.size) :
    ∃ v' w', (Builtin.append_ #[31, 31] ty #[v, s]).run Tryz.prog w = .ok v' w' ∧ OwnB w' base v' (l ++ m) ∧ w.grownBy w' v.ownBlock := by
  obtain ⟨v', w', h1, h2, h3⟩ := slByte.append_row own src.1 ty (u8_one m) (by omega) (by simp [maxLen]; omega) hbase
  refine ⟨v', w', h1, ?_, h3⟩
  unfold OwnB
  rw [List.length_append, List.map_append]
  exact h2
variable {w : World}
def sizeOk (k : Nat) : Prop := k = 1 ∨ k = 2 ∨ k = 4 ∨ k = 8
instance (k : Nat) : Decidable (sizeOk k) := inferInstanceAs (Decidable (_ ∨ _))
theorem isSize_any (k : Int) (w : World) : CallP Tryz.prog 83 #[.int .i64 k] w (fun r w' => r = .bool (decide (k = 1 ∨ k = 2 ∨ k = 4 ∨ k = 8)) ∧ w' = w) := by
  refine call_den (args := [_]) Tryz.func83 rfl rfl (by simp [Tryz.ntmps83]) ?_
  by_cases h1 : k = 1
  · simp [go_sem, h1]
  · by_cases h2 : k = 2
    · simp [go_sem, h1, h2]
    · by_cases h3 : k = 4
      · simp [go_sem, h1, h2, h3]
      · by_cases h4 : k = 8
        · simp [go_sem, h1, h2, h3, h4]
        · simp [go_sem, h1, h2, h3, h4]
def arrP (n k i : Nat) : Array Value := ((leB n i ++ List.replicate (k - i) 0).map u8V).toArray
theorem arrP_size (n k i : Nat) (h : i ≤ k) : (arrP n k i).size = k := by simp [arrP, leB_len]; omega
theorem arrP_set (n k i : Nat) (h : i < k) : (arrP n k i).setIfInBounds i (.int .u8 (IntKind.u8.wrap ((n : Int) / 256 ^ i))) = arrP n k (i + 1) := by
  have e0 : (n : Int) / 256 ^ i = ((n / 256 ^ i : Nat) : Int) := by simp
  rw [e0]
  have e1 : k - i = (k - (i + 1)) + 1 := by omega
  have e2 : IntKind.u8.wrap ((n / 256 ^ i : Nat) : Int) = (((UInt8.ofNat (n / 256 ^ i)).toNat : Nat) : Int) := by
    simp only [IntKind.wrap, IntKind.bits, IntKind.signed]; simp
  unfold arrP
  rw [e1, List.replicate_succ, leB_snoc, e2]
  simp only [List.map_append, List.map_cons, List.map_nil, List.setIfInBounds_toArray]
  congr 1
  rw [List.set_append_right _ _ (by simp [leB_len])]
  simp [leB_len, u8V]
theorem shr8 (n i : Nat) (hi : i < 8) : (n : Int) / 2 ^ (min (8 * (i : Int)).toNat 64) = (n : Int) / 256 ^ i := by
  have e1 : (8 * (i : Int)).toNat = 8 * i := by omega
  have e2 : min (8 * i) 64 = 8 * i := by omega
  rw [e1, e2, Int.pow_mul]
  rfl
theorem shr8' (n i : Nat) : (n : Int) / 2 ^ (8 * (i : Int)).toNat = (n : Int) / 256 ^ i := by
  have e1 : (8 * (i : Int)).toNat = 8 * i := by omega
  rw [e1, Int.pow_mul]
  rfl
def PutI (w : World) (n : Nat) (k m : Nat) (ρ : Env) (w' : World) : Prop :=
  ∃ i : Nat, m = k - i ∧ i ≤ k ∧ ρ 0 = .int .u64 n ∧ ρ 6 = .slice (some ⟨w.heap.size, 0, none⟩) k k ∧ ρ 26 = .int .i64 k ∧ ρ 27 = .int .i64 i ∧ Upd noB w w' ∧ w'.heap[w.heap.size]? = some (.cells (arrP n k i) 5 (0, 0))
set_option maxHeartbeats 1000000 in
theorem endsPut_any (n : Nat) (k : Nat) (hk : sizeOk k) (h1 : n < 256 ^ k) (w : World) :
    CallP Tryz.prog 56 #[.int .u64 n, .int .i64 k] w (fun r w' => ∃ v, r = .tuple #[v, .int .i64 0] ∧ Upd noB w w' ∧ OwnB w' w.heap.size v (leB n k)) := by
  have hk8 : k ≤ 8 := by unfold sizeOk at hk; omega
  have hk' : ((k : Int) = 1 ∨ (k : Int) = 2 ∨ (k : Int) = 4 ∨ (k : Int) = 8) := by unfold sizeOk at hk; omega
  refine call_den (args := [_, _]) Tryz.func56 rfl rfl (by simp [Tryz.ntmps56]) ?_
  simp [go_sem]
  refine CallP.mono (isSize_any k w) ?_
  rintro r w1 ⟨rfl, rfl⟩
  have hwi : ∀ i : Nat, i ≤ 8 → IntKind.i64.wrap (8 * (i : Int)) = 8 * (i : Int) := fun i hi => wrap64_id (by omega) (by omega)
  have hwu : ∀ i : Nat, i ≤ 8 → IntKind.u64.wrap (8 * (i : Int)) = 8 * (i : Int) := fun i hi => wrap64 (by omega) (by omega)
  have hnn : ∀ i : Nat, 0 ≤ 8 * (i : Int) := fun i => by omega
  have hmk := slByte.makeB (w := w1) zByte k (by omega) .i64 .i64
  have hz0 : (n : Int) / 256 ^ k = 0 := by
    have e : (n : Int) / 256 ^ k = ((n / 256 ^ k : Nat) : Int) := by simp
    rw [e, Nat.div_eq_of_lt h1]
    rfl
  by_cases h8 : (k : Int) < 8
  · simp [go_sem, hk', h8, hwi k hk8, hwu k hk8, hnn k, shr8' n k, hz0, K_makeSlice_ok _ _ _ _ hmk]
    refine den_loop (PutI w1 n k) k ?_ ?_
    · refine ⟨0, rfl, Nat.zero_le _, by simp [go_sem], by simp [go_sem], by simp [go_sem], by simp [go_sem], (Upd.refl _ _).alloc _, ?_⟩
      rw [heap_alloc, if_pos rfl]
      simp [arrP, leB]
    · rintro m ρ w' ⟨i, rfl, hi, g0, g6, g26, g27, hu, hb⟩
      by_cases hlt : i < k
      · have hwr : IntKind.i64.wrap ((i : Int) + 1) = ((i + 1 : Nat) : Int) := wrap64_id (by omega) (by omega)
        have hsz := arrP_size n k i hi
        have hlt' : i < (arrP n k i).size := by omega
        simp [go_sem, g0, g6, g26, g27, hlt, hwi i (by omega), hwu i (by omega), hnn i, shr8 n i (by omega), shr8' n i, hb, hlt', hsz, arrP_set n k i hlt]
        refine ⟨k - (i + 1), by omega, i + 1, rfl, by omega, by simp [go_sem, g0], by simp [go_sem, g6], by simp [go_sem, g26], by simp [go_sem, hwr], hu.setB _ _ (fun h => absurd h (by omega)), ?_⟩
        rw [heap_setB, if_pos rfl, hb]
        rfl
      · have hi' : i = k := by omega
        subst hi'
        simp [go_sem, g0, g6, g26, g27]
        refine ⟨hu, ?_⟩
        have e : (arrP n i i).toList = (leB n i).map u8V := by simp [arrP]
        have ho := own_block hb (Nat.le_refl _) (arrP_size n i i hi) (by simp [maxLen]; omega) (fun _ => by rw [e]; exact u8_is _)
        rw [e] at ho
        unfold OwnB
        rw [leB_len]
        exact ho
  · simp [go_sem, hk', h8, K_makeSlice_ok _ _ _ _ hmk]
    refine den_loop (PutI w1 n k) k ?_ ?_
    · refine ⟨0, rfl, Nat.zero_le _, by simp [go_sem], by simp [go_sem], by simp [go_sem], by simp [go_sem], (Upd.refl _ _).alloc _, ?_⟩
      rw [heap_alloc, if_pos rfl]
      simp [arrP, leB]
    · rintro m ρ w' ⟨i, rfl, hi, g0, g6, g26, g27, hu, hb⟩
      by_cases hlt : i < k
      · have hwr : IntKind.i64.wrap ((i : Int) + 1) = ((i + 1 : Nat) : Int) := wrap64_id (by omega) (by omega)
        have hsz := arrP_size n k i hi
        have hlt' : i < (arrP n k i).size := by omega
        simp [go_sem, g0, g6, g26, g27, hlt, hwi i (by omega), hwu i (by omega), hnn i, shr8 n i (by omega), shr8' n i, hb, hlt', hsz, arrP_set n k i hlt]
        refine ⟨k - (i + 1), by omega, i + 1, rfl, by omega, by simp [go_sem, g0], by simp [go_sem, g6], by simp [go_sem, g26], by simp [go_sem, hwr], hu.setB _ _ (fun h => absurd h (by omega)), ?_⟩
        rw [heap_setB, if_pos rfl, hb]
        rfl
      · have hi' : i = k := by omega
        subst hi'
        simp [go_sem, g0, g6, g26, g27]
        refine ⟨hu, ?_⟩
        have e : (arrP n i i).toList = (leB n i).map u8V := by simp [arrP]
        have ho := own_block hb (Nat.le_refl _) (arrP_size n i i hi) (by simp [maxLen]; omega) (fun _ => by rw [e]; exact u8_is _)
        rw [e] at ho
        unfold OwnB
        rw [leB_len]
        exact ho
/-! ### reading -/
/-- a place from where k bytes can be read -/
def cutL (l : List UInt8) (at' k : Nat) : List UInt8 := (l.drop at').take k
theorem cut_any {s : Value} {l : List UInt8} (hb : BytesAt w s l) (hl : l.length ≤ 9223372036854775807) (a k : Nat) (h : a + k ≤ l.length) :
    CallP Tryz.prog 104 #[s, .int .i64 a, .int .i64 k] w (fun r w' => ∃ v, r = .tuple #[v, .int .i64 0] ∧ w' = w ∧ BytesAt w v (cutL l a k)) := by
  obtain ⟨p, cap, rfl, hcap⟩ := hb.len
  have hw1 : IntKind.i64.wrap ((l.length : Int) - a) = (l.length : Int) - a := wrap64_id (by omega) (by omega)
  have hw2 : IntKind.i64.wrap ((a : Int) + k) = (a : Int) + k := wrap64_id (by omega) (by omega)
  have n1 : ¬ (a : Int) < 0 := by omega
  have n2 : ¬ l.length < a := by omega
  have n3 : ¬ (k : Int) < 0 := by omega
  have n4 : ¬ (l.length : Int) - a < k := by omega
  have c0 : 0 ≤ (a : Int) + k := by omega
  have c1 : (a : Int) + k ≤ cap := by omega
  have c2 : ((a : Int) + k).toNat = a + k := by omega
  have c3 : max ((a : Int) + k) 0 = (a : Int) + k := by omega
  have c4 : a + k - a = k := by omega
  have key := hb.cut (lo := a) (hi := a + k) (m := a + k) (by omega) h (Nat.le_refl _)
  unfold sliced at key
  rw [c4] at key
  refine call_den (args := [_, _, _]) Tryz.func104 rfl rfl (by simp [Tryz.ntmps104]) ?_
  simp [go_sem, hw1, hw2, n1, n2, n3, n4, c0, c1, c2, c3, c4]
  have e1 : (a + k = a) = (k = 0) := by simp
  simp only [Nat.mul_one, e1] at key
  exact key
theorem cut_out {s : Value} {l : List UInt8} (hb : BytesAt w s l) (hl : l.length ≤ 9223372036854775807) (a k : Nat) (h : l.length < a + k) (hk : k ≤ 9223372036854775807) (ha : a ≤ 9223372036854775807) :
    CallP Tryz.prog 104 #[s, .int .i64 a, .int .i64 k] w (fun r w' => r = .tuple #[.slice none 0 0, .int .i64 (if l.length < a then 2 else 4)] ∧ w' = w) := by
  obtain ⟨p, cap, rfl, hcap⟩ := hb.len
  have n1 : ¬ (a : Int) < 0 := by omega
  have n3 : ¬ (k : Int) < 0 := by omega
  refine call_den (args := [_, _, _]) Tryz.func104 rfl rfl (by simp [Tryz.ntmps104]) ?_
  by_cases n2 : l.length < a
  · simp [go_sem, n1, n2]
  · have hw1 : IntKind.i64.wrap ((l.length : Int) - a) = (l.length : Int) - a := wrap64_id (by omega) (by omega)
    have n4 : (l.length : Int) - a < k := by omega
    simp [go_sem, hw1, n1, n2, n3, n4]
theorem cutL_len (l : List UInt8) (a k : Nat) (h : a + k ≤ l.length) : (cutL l a k).length = k := by unfold cutL; simp; omega
theorem numB_snoc (l : List UInt8) (i : Nat) (hi : i < l.length) : numB (l.take (i + 1)) = numB (l.take i) + 256 ^ i * l[i].toNat := by
  rw [List.take_succ_eq_append_getElem hi, numB_append, List.length_take, Nat.min_eq_left (by omega)]
  simp [numB]
theorem or_digit (x c i : Nat) (hx : x < 256 ^ i) (hc : c < 256) (hi : i < 8) :
    bits .or .u64 (x : Int) (IntKind.u64.wrap (IntKind.u64.wrap (c : Int) * 2 ^ min (IntKind.u64.wrap (IntKind.i64.wrap (8 * (i : Int)))).toNat 64)) = ((x + 256 ^ i * c : Nat) : Int) := by
  have e1 : IntKind.i64.wrap (8 * (i : Int)) = 8 * (i : Int) := wrap64_id (by omega) (by omega)
  have e2 : IntKind.u64.wrap (8 * (i : Int)) = 8 * (i : Int) := wrap64 (by omega) (by omega)
  have e3 : (8 * (i : Int)).toNat = 8 * i := by omega
  have e4 : min (8 * i) 64 = 8 * i := by omega
  have e5 : IntKind.u64.wrap (c : Int) = c := wrap64 (by omega) (by omega)
  have hp : 256 ^ (i + 1) ≤ 256 ^ 8 := Nat.pow_le_pow_right (by decide) (by omega)
  have hp0 : 0 < 256 ^ i := Nat.pow_pos (by decide)
  have hlt : 256 ^ i * c < 18446744073709551616 := by
    have h1 : 256 ^ i * c < 256 ^ i * 256 := Nat.mul_lt_mul_of_pos_left hc hp0
    rw [← Nat.pow_succ] at h1
    exact Nat.lt_of_lt_of_le h1 hp
  have hxl : x < 18446744073709551616 := by
    have h1 : 256 ^ i ≤ 256 ^ (i + 1) := Nat.pow_le_pow_right (by decide) (by omega)
    exact Nat.lt_of_lt_of_le hx (Nat.le_trans h1 hp)
  have e6 : (c : Int) * 2 ^ (8 * i) = ((256 ^ i * c : Nat) : Int) := by
    rw [Int.pow_mul, Nat.mul_comm]; simp
  rw [e1, e2, e3, e4, e5, e6, wrap64 (by omega) (by omega), bits_or_u64_nat x _ hxl hlt]
  congr 1
  have e7 : 256 ^ i = 2 ^ (8 * i) := by rw [Nat.pow_mul]
  rw [e7] at hx ⊢
  rw [Nat.or_comm, ← Nat.two_pow_add_eq_or_of_lt hx, Nat.add_comm]
def GetI (w : World) (v : Value) (q : List UInt8) (k m : Nat) (ρ : Env) (w' : World) : Prop :=
  ∃ i x : Nat, m = k - i ∧ i ≤ k ∧ x = numB (q.take i) ∧ ρ 26 = v ∧ ρ 27 = .int .i64 k ∧ ρ 28 = .int .i64 i ∧ ρ 10 = .int .u64 x ∧ w' = w
set_option maxHeartbeats 1000000 in
theorem endsGet_any {s : Value} {l : List UInt8} (hb : BytesAt w s l) (hl : l.length ≤ 9223372036854775807) (a k : Nat) (h : a + k ≤ l.length) (hk : sizeOk k) :
    CallP Tryz.prog 71 #[s, .int .i64 a, .int .i64 k] w (fun r w' => r = .tuple #[.int .u64 (numB (cutL l a k)), .int .i64 0] ∧ w' = w) := by
  have hk8 : k ≤ 8 := by unfold sizeOk at hk; omega
  have hk' : ((k : Int) = 1 ∨ (k : Int) = 2 ∨ (k : Int) = 4 ∨ (k : Int) = 8) := by unfold sizeOk at hk; omega
  refine call_den (args := [_, _, _]) Tryz.func71 rfl rfl (by simp [Tryz.ntmps71]) ?_
  simp [go_sem]
  refine CallP.mono (isSize_any k w) ?_
  rintro r w1 ⟨rfl, rfl⟩
  simp [go_sem, hk']
  refine CallP.mono (cut_any hb hl a k h) ?_
  rintro r w2 ⟨v, rfl, rfl, hv⟩
  have hq := cutL_len l a k h
  obtain ⟨q, hqe⟩ : ∃ q, q = cutL l a k := ⟨_, rfl⟩
  rw [← hqe] at hv hq ⊢
  obtain ⟨p, cap, rfl, hcap⟩ := hv.len
  simp [go_sem]
  refine den_loop (GetI w2 (.slice p q.length cap) q k) k ?_ ?_
  · exact ⟨0, 0, rfl, Nat.zero_le _, by simp [numB], by simp [go_sem], by simp [go_sem, hq], by simp [go_sem], by simp [go_sem], rfl⟩
  · rintro m ρ w' ⟨i, x, rfl, hi, hx, g26, g27, g28, g10, rfl⟩
    by_cases hlt : i < k
    · have hwr : IntKind.i64.wrap ((i : Int) + 1) = ((i + 1 : Nat) : Int) := wrap64_id (by omega) (by omega)
      obtain ⟨qa, hidx, hld, hK⟩ := hv.at (P := Tryz.prog) (t := 31) (e := 5) Tryz.underlying31 Tryz.sizeOf5 Tryz.isAgg5 i (by omega)
      obtain ⟨c, hc⟩ : ∃ c, c = q[i].toNat := ⟨_, rfl⟩
      rw [← hc] at hK
      simp [go_sem, g26, g27, g28, g10, hlt, hidx, hK]
      refine ⟨k - (i + 1), by omega, i + 1, numB (q.take (i + 1)), rfl, by omega, rfl, by simp [go_sem, g26], by simp [go_sem, g27], by simp [go_sem, hwr], ?_, rfl⟩
      have hx256 : x < 256 ^ i := by
        have := numB_lt (q.take i)
        rw [List.length_take, Nat.min_eq_left (by omega)] at this
        omega
      have hor := or_digit x c i hx256 (by rw [hc]; exact UInt8.toNat_lt _) (by omega)
      rw [numB_snoc q i (by omega), ← hx, ← hc]
      simp only [putE_at, putE_none, if_true, if_false]
      simp [go_sem, g26, g27, g28, g10]
      rw [hor]
      simp
    · have hi' : i = k := by omega
      subst hi'
      simp [go_sem, g26, g27, g28, g10]
      rw [hx, ← hq, List.take_length]
theorem endsGet_out {s : Value} {l : List UInt8} (hb : BytesAt w s l) (hl : l.length ≤ 9223372036854775807) (a k : Nat) (h : l.length < a + k) (hk : sizeOk k) (ha : a ≤ 9223372036854775807) :
    CallP Tryz.prog 71 #[s, .int .i64 a, .int .i64 k] w (fun r w' => r = .tuple #[.int .u64 0, .int .i64 (if l.length < a then 2 else 4)] ∧ w' = w) := by
  have hk' : ((k : Int) = 1 ∨ (k : Int) = 2 ∨ (k : Int) = 4 ∨ (k : Int) = 8) := by unfold sizeOk at hk; omega
  have hk8 : k ≤ 8 := by unfold sizeOk at hk; omega
  have he : ¬ (if l.length < a then (2 : Int) else 4) = 0 := by split <;> decide
  refine call_den (args := [_, _, _]) Tryz.func71 rfl rfl (by simp [Tryz.ntmps71]) ?_
  simp [go_sem]
  refine CallP.mono (isSize_any k w) ?_
  rintro r w1 ⟨rfl, rfl⟩
  simp [go_sem, hk']
  refine CallP.mono (cut_out hb hl a k h (by omega) ha) ?_
  rintro r w2 ⟨rfl, rfl⟩
  simp [go_sem, he]
end Go.Proofs.YtinfdomlpbikaaaGreatDoor
namespace Go.Proofs.YtinfdomlpbikaaaGreatDoor
open Go Go.Lib
set_option maxRecDepth 100000
def leadN (b : Nat) : Nat × Nat × Nat :=
  if b < 128 then (1, b, 0) else if 192 ≤ b ∧ b < 224 then (2, b - 192, 128) else if 224 ≤ b ∧ b < 240 then (3, b - 224, 2048) else if 240 ≤ b ∧ b < 248 then (4, b - 240, 65536) else (0, 0, 0)
def isLetter (n : Nat) : Bool := decide (n ≤ 1114111 ∧ (n < 55296 ∨ 57343 < n))
def contN : List UInt8 → Nat → Option Nat
  | [], n => some n
  | b :: r, n => if b.toNat < 128 ∨ 192 ≤ b.toNat then none else contN r (64 * n + b.toNat - 128)
def firstN : List UInt8 → Nat × Nat
  | [] => (0, 0)
  | b :: r =>
    if (leadN b.toNat).1 = 0 ∨ r.length + 1 < (leadN b.toNat).1 then (0, 0)
    else match contN (r.take ((leadN b.toNat).1 - 1)) (leadN b.toNat).2.1 with
      | none => (0, 0)
      | some m => if m < (leadN b.toNat).2.2 ∨ isLetter m = false then (0, 0) else (m, (leadN b.toNat).1)
def bad (x : Nat × Nat) : Nat × Nat := if x = (65533, 1) then (0, 0) else x
theorem bad_bad : bad (65533, 1) = (0, 0) := rfl
theorem isL (m : Nat) : (isLetter m = false) = ¬ (m ≤ 1114111 ∧ (m < 55296 ∨ 57343 < m)) := by simp [isLetter]
theorem bad_w {m k : Nat} (h : k ≠ 1) : bad (m, k) = (m, k) := by simp [bad, h]
abbrev cb (b : Nat) : Prop := b < 128 ∨ 192 ≤ b
theorem dec2 {n b0 b1 b2 b3 : Nat} (h0 : 192 ≤ b0 ∧ b0 < 224) (h1 : b1 < 256) : bad (decodeN n b0 b1 b2 b3) = if n < 2 ∨ cb b1 ∨ 64 * (b0 - 192) + b1 - 128 < 128 then (0, 0) else (64 * (b0 - 192) + b1 - 128, 2) := by
  by_cases hc : n < 2 ∨ cb b1
  · have h : decodeN n b0 b1 b2 b3 = (65533, 1) := by
      simp only [cb] at hc
      unfold decodeN; rw [if_neg (by omega), if_neg (by omega), if_neg (by omega), if_neg (by omega)]
    rw [h, if_pos (by rcases hc with h | h <;> simp [h])]; rfl
  · unfold decodeN
    rw [if_neg (by omega)]
    simp only [cb] at hc ⊢
    rw [if_pos (by omega)]
    by_cases hv : 64 * (b0 - 192) + b1 - 128 < 128
    · rw [if_neg (by omega), if_pos (by omega)]; rfl
    · rw [if_pos (by omega), if_neg (by omega), bad_w (by omega)]; congr 1; omega
theorem dec3 {n b0 b1 b2 b3 : Nat} (h0 : 224 ≤ b0 ∧ b0 < 240) (h1 : b1 < 256) (h2 : b2 < 256) :
    bad (decodeN n b0 b1 b2 b3) = if n < 3 ∨ cb b1 ∨ cb b2 ∨ 64 * (64 * (b0 - 224) + b1 - 128) + b2 - 128 < 2048 ∨ isLetter (64 * (64 * (b0 - 224) + b1 - 128) + b2 - 128) = false then (0, 0) else (64 * (64 * (b0 - 224) + b1 - 128) + b2 - 128, 3) := by
  by_cases hc : n < 3 ∨ cb b1 ∨ cb b2
  · have h : decodeN n b0 b1 b2 b3 = (65533, 1) := by
      simp only [cb] at hc
      unfold decodeN; rw [if_neg (by omega), if_neg (by omega), if_neg (by omega), if_neg (by omega)]
    rw [h, if_pos (by rcases hc with h | h | h <;> simp [h])]; rfl
  · unfold decodeN
    rw [if_neg (by omega), if_neg (by omega)]
    simp only [cb, isL] at hc ⊢
    rw [if_pos (by omega)]
    have e : b0 % 16 * 4096 + b1 % 64 * 64 + b2 % 64 = 64 * (64 * (b0 - 224) + b1 - 128) + b2 - 128 := by omega
    rw [e]
    generalize 64 * (64 * (b0 - 224) + b1 - 128) + b2 - 128 = v at *
    by_cases hv : v ≥ 2048 ∧ (v < 55296 ∨ 57344 ≤ v ∧ v ≤ 1114111)
    · rw [if_pos hv, if_neg (by omega), bad_w (by omega)]
    · rw [if_neg hv, if_pos (by omega)]; rfl
theorem dec4 {n b0 b1 b2 b3 : Nat} (h0 : 240 ≤ b0 ∧ b0 < 248) (h1 : b1 < 256) (h2 : b2 < 256) (h3 : b3 < 256) :
    bad (decodeN n b0 b1 b2 b3) = if n < 4 ∨ cb b1 ∨ cb b2 ∨ cb b3 ∨ 64 * (64 * (64 * (b0 - 240) + b1 - 128) + b2 - 128) + b3 - 128 < 65536 ∨ isLetter (64 * (64 * (64 * (b0 - 240) + b1 - 128) + b2 - 128) + b3 - 128) = false then (0, 0) else (64 * (64 * (64 * (b0 - 240) + b1 - 128) + b2 - 128) + b3 - 128, 4) := by
  by_cases hc : n < 4 ∨ cb b1 ∨ cb b2 ∨ cb b3
  · have h : decodeN n b0 b1 b2 b3 = (65533, 1) := by
      simp only [cb] at hc
      unfold decodeN; rw [if_neg (by omega), if_neg (by omega), if_neg (by omega), if_neg (by omega)]
    rw [h, if_pos (by rcases hc with h | h | h | h <;> simp [h])]; rfl
  · unfold decodeN
    rw [if_neg (by omega), if_neg (by omega), if_neg (by omega)]
    simp only [cb, isL] at hc ⊢
    rw [if_pos (by omega)]
    have e : b0 % 8 * 262144 + b1 % 64 * 4096 + b2 % 64 * 64 + b3 % 64 = 64 * (64 * (64 * (b0 - 240) + b1 - 128) + b2 - 128) + b3 - 128 := by omega
    rw [e]
    generalize 64 * (64 * (64 * (b0 - 240) + b1 - 128) + b2 - 128) + b3 - 128 = v at *
    by_cases hv : v ≥ 65536 ∧ (v < 55296 ∨ 57344 ≤ v ∧ v ≤ 1114111)
    · rw [if_pos hv, if_neg (by omega), bad_w (by omega)]
    · rw [if_neg hv, if_pos (by omega)]; rfl
theorem firstN_decode (b : UInt8) (r : List UInt8) : firstN (b :: r) = bad (decodeL (b :: r)) := by
  rw [decodeL_N]
  have hb : b.toNat < 256 := b.toNat_lt
  have e0 : (b :: r).getD 0 0 = b := rfl
  have e1 : (b :: r).getD 1 0 = r.getD 0 0 := rfl
  have e2 : (b :: r).getD 2 0 = r.getD 1 0 := rfl
  have e3 : (b :: r).getD 3 0 = r.getD 2 0 := rfl
  have y0 : (r.getD 0 0).toNat < 256 := UInt8.toNat_lt _
  have y1 : (r.getD 1 0).toNat < 256 := UInt8.toNat_lt _
  have y2 : (r.getD 2 0).toNat < 256 := UInt8.toNat_lt _
  rw [e0, e1, e2, e3, List.length_cons]
  rw [firstN]
  clear e0 e1 e2 e3
  generalize b.toNat = n0 at hb ⊢
  by_cases h1 : n0 < 128
  · have hl : leadN n0 = (1, n0, 0) := by simp [leadN, h1]
    have hi : isLetter n0 = true := by simp [isLetter]; omega
    have hq : ¬ n0 = 65533 := by omega
    simp [hl, contN, decodeN, h1, hi, bad, hq]
  by_cases h2 : n0 < 192
  · have hl : leadN n0 = (0, 0, 0) := by
      unfold leadN; rw [if_neg h1, if_neg (by omega), if_neg (by omega), if_neg (by omega)]
    rw [decodeN_bad _ _ _ _ _ (Or.inl ⟨by omega, by omega⟩)]
    simp [hl, bad_bad]
  by_cases h3 : n0 < 224
  · have hl : leadN n0 = (2, n0 - 192, 128) := by
      unfold leadN; rw [if_neg h1, if_pos ⟨by omega, h3⟩]
    rw [dec2 ⟨by omega, h3⟩ y0]
    match r with
    | [] => simp [hl]
    | b1 :: r =>
      simp only [hl, List.length_cons, List.getD_cons_zero, show 2 - 1 = 1 from rfl, List.take_succ_cons, List.take_zero, contN, cb]
      rw [if_neg (by omega)]
      by_cases c1 : b1.toNat < 128 ∨ 192 ≤ b1.toNat
      · rw [if_pos c1, if_pos (by omega)]
      · rw [if_neg c1]
        simp only [isL]
        by_cases c2 : 64 * (n0 - 192) + b1.toNat - 128 < 128
        · rw [if_pos (by omega), if_pos (by omega)]
        · rw [if_neg (by omega), if_neg (by omega)]
  by_cases h4 : n0 < 240
  · have hl : leadN n0 = (3, n0 - 224, 2048) := by
      unfold leadN; rw [if_neg h1, if_neg (by omega), if_pos ⟨by omega, h4⟩]
    rw [dec3 ⟨by omega, h4⟩ y0 y1]
    match r with
    | [] => simp [hl]
    | [b1] => simp [hl]
    | b1 :: b2 :: r =>
      simp only [hl, List.length_cons, List.getD_cons_zero, List.getD_cons_succ, show 3 - 1 = 2 from rfl, List.take_succ_cons, List.take_zero, contN, cb]
      rw [if_neg (by omega)]
      by_cases c1 : b1.toNat < 128 ∨ 192 ≤ b1.toNat
      · rw [if_pos c1, if_pos (Or.inr (Or.inl c1))]
      · by_cases c2 : b2.toNat < 128 ∨ 192 ≤ b2.toNat
        · rw [if_neg c1, if_pos c2, if_pos (Or.inr (Or.inr (Or.inl c2)))]
        · rw [if_neg c1, if_neg c2]
          generalize 64 * (64 * (n0 - 224) + b1.toNat - 128) + b2.toNat - 128 = v
          by_cases c3 : v < 2048 ∨ isLetter v = false
          · rw [if_pos (Or.inr (Or.inr (Or.inr c3)))]; simp only [c3, if_true]
          · rw [if_neg (by rintro (h | h | h | h) <;> first | omega | exact c1 h | exact c2 h | exact c3 h)]; simp only [c3, if_false]
  by_cases h5 : n0 < 248
  · have hl : leadN n0 = (4, n0 - 240, 65536) := by
      unfold leadN; rw [if_neg h1, if_neg (by omega), if_neg (by omega), if_pos ⟨by omega, h5⟩]
    rw [dec4 ⟨by omega, h5⟩ y0 y1 y2]
    match r with
    | [] => simp [hl]
    | [b1] => simp [hl]
    | [b1, b2] => simp [hl]
    | b1 :: b2 :: b3 :: r =>
      simp only [hl, List.length_cons, List.getD_cons_zero, List.getD_cons_succ, show 4 - 1 = 3 from rfl, List.take_succ_cons, List.take_zero, contN, cb]
      rw [if_neg (by omega)]
      by_cases c1 : b1.toNat < 128 ∨ 192 ≤ b1.toNat
      · rw [if_pos c1, if_pos (Or.inr (Or.inl c1))]
      · by_cases c2 : b2.toNat < 128 ∨ 192 ≤ b2.toNat
        · rw [if_neg c1, if_pos c2, if_pos (Or.inr (Or.inr (Or.inl c2)))]
        · by_cases c4 : b3.toNat < 128 ∨ 192 ≤ b3.toNat
          · rw [if_neg c1, if_neg c2, if_pos c4, if_pos (Or.inr (Or.inr (Or.inr (Or.inl c4))))]
          · rw [if_neg c1, if_neg c2, if_neg c4]
            generalize 64 * (64 * (64 * (n0 - 240) + b1.toNat - 128) + b2.toNat - 128) + b3.toNat - 128 = v
            by_cases c3 : v < 65536 ∨ isLetter v = false
            · rw [if_pos (Or.inr (Or.inr (Or.inr (Or.inr c3))))]; simp only [c3, if_true]
            · rw [if_neg (by rintro (h | h | h | h | h) <;> first | omega | exact c1 h | exact c2 h | exact c3 h | exact c4 h)]; simp only [c3, if_false]
  · have hl : leadN n0 = (0, 0, 0) := by
      unfold leadN; rw [if_neg h1, if_neg (by omega), if_neg (by omega), if_neg (by omega)]
    rw [decodeN_bad _ _ _ _ _ (Or.inr ⟨by omega, by omega⟩)]
    simp [hl, bad_bad]

/-! ### the letters of a text -/
/-- the letters (a byte that belongs to none is one above all others), and whether it is a text -/
def letsF : Nat → List UInt8 → List Nat × Bool
  | 0, _ => ([], true)
  | _ + 1, [] => ([], true)
  | n + 1, b :: r =>
    if (firstN (b :: r)).2 = 0 then ((1114112 + b.toNat) :: (letsF n r).1, false)
    else ((firstN (b :: r)).1 :: (letsF n ((b :: r).drop (firstN (b :: r)).2)).1, (letsF n ((b :: r).drop (firstN (b :: r)).2)).2)
/-- the letters as the model's decoder has them -/
def codesF : Nat → List UInt8 → List Nat
  | 0, _ => []
  | n + 1, l => if l = [] then [] else (decodeL l).1 :: codesF n (l.drop (decodeL l).2)
theorem firstN_zero (b : UInt8) (r : List UInt8) : (firstN (b :: r)).2 = 0 ↔ decodeL (b :: r) = (65533, 1) := by
  rw [firstN_decode]
  have h := decodeL_width (b :: r)
  unfold bad
  split
  · rename_i h; simp [h]
  · rename_i h2; simp [h2]; omega
theorem firstN_ok {b : UInt8} {r : List UInt8} (h : (firstN (b :: r)).2 ≠ 0) : firstN (b :: r) = decodeL (b :: r) := by
  rw [Ne, firstN_zero] at h
  rw [firstN_decode, bad, if_neg h]
theorem lets_valid : ∀ (n : Nat) (l : List UInt8), l.length ≤ n → (letsF n l).2 = validD l
  | 0, l, h => by
    have : l = [] := List.eq_nil_of_length_eq_zero (by omega)
    subst this; rfl
  | n + 1, [], _ => rfl
  | n + 1, b :: r, h => by
    rw [validD_step _ (by simp), letsF]
    have hw := decodeL_width (b :: r)
    by_cases hz : (firstN (b :: r)).2 = 0
    · rw [if_pos hz, if_pos]
      rw [(firstN_zero b r).1 hz]; exact ⟨rfl, rfl⟩
    · have e := firstN_ok hz
      rw [if_neg hz, if_neg, lets_valid n _ (by simp at h ⊢; omega), e]
      intro hh
      exact hz ((firstN_zero b r).2 (Prod.ext hh.1 hh.2))
theorem lets_codes : ∀ (n : Nat) (l : List UInt8), l.length ≤ n → validD l = true → (letsF n l).1 = codesF n l
  | 0, l, h, _ => rfl
  | n + 1, [], _, _ => rfl
  | n + 1, b :: r, h, hv => by
    have hw := decodeL_width (b :: r)
    rw [validD_step _ (by simp)] at hv
    by_cases hz : (firstN (b :: r)).2 = 0
    · rw [(firstN_zero b r).1 hz] at hv
      simp at hv
    · have e := firstN_ok hz
      rw [if_neg (fun hh => hz ((firstN_zero b r).2 (Prod.ext hh.1 hh.2)))] at hv
      have ih := lets_codes n ((b :: r).drop (decodeL (b :: r)).2) (by rw [List.length_drop]; omega) hv
      have e1 : codesF (n + 1) (b :: r) = (decodeL (b :: r)).1 :: codesF n ((b :: r).drop (decodeL (b :: r)).2) := by
        rw [codesF]; exact if_neg (by intro h; cases h)
      rw [letsF, if_neg hz, e1, ← ih, e]
theorem codesF_fuel : ∀ (n m : Nat) (l : List UInt8), l.length ≤ n → l.length ≤ m → codesF n l = codesF m l
  | 0, m, l, hn, _ => by
    have : l = [] := List.eq_nil_of_length_eq_zero (by omega)
    subst this
    cases m <;> simp [codesF]
  | n + 1, 0, l, _, hm => by
    have : l = [] := List.eq_nil_of_length_eq_zero (by omega)
    subst this
    simp [codesF]
  | n + 1, m + 1, l, hn, hm => by
    unfold codesF
    by_cases hne : l = []
    · simp [hne]
    · have hw := decodeL_width l
      have hl : 0 < l.length := List.length_pos_iff.2 hne
      rw [if_neg hne, if_neg hne, codesF_fuel n m _ (by rw [List.length_drop]; omega) (by rw [List.length_drop]; omega)]
def letsL (l : List UInt8) : List Nat × Bool := letsF l.length l
def codesL (l : List UInt8) : List Nat := codesF l.length l
theorem codesL_step (l : List UInt8) (h : l ≠ []) : codesL l = (decodeL l).1 :: codesL (l.drop (decodeL l).2) := by
  unfold codesL
  have hw := decodeL_width l
  have hl : 0 < l.length := List.length_pos_iff.2 h
  obtain ⟨n, hn⟩ : ∃ n, l.length = n + 1 := ⟨l.length - 1, by omega⟩
  rw [hn, codesF, if_neg h, codesF_fuel n _ (l.drop (decodeL l).2) (by rw [List.length_drop]; omega) (Nat.le_refl _)]
theorem lets_of_valid {l : List UInt8} (h : validD l = true) : letsL l = (codesL l, true) := Prod.ext (lets_codes _ l (Nat.le_refl _) h) ((lets_valid _ l (Nat.le_refl _)).trans h)
theorem lets_len : ∀ (n : Nat) (l : List UInt8), (letsF n l).1.length ≤ n
  | 0, _ => Nat.le_refl _
  | n + 1, [] => Nat.zero_le _
  | n + 1, b :: r => by
    rw [letsF]
    split
    · simp; exact lets_len n r
    · simp; exact lets_len n _
theorem letsL_len (l : List UInt8) : (letsL l).1.length ≤ l.length := lets_len _ _
/-- a letter's number, where there is one -/
theorem code_letter {l : List UInt8} (h : decodeL l ≠ (65533, 1)) (hl : l ≠ []) : isLetter (decodeL l).1 = true := by
  match l with
  | b :: r =>
    have hz : (firstN (b :: r)).2 ≠ 0 := fun hh => h ((firstN_zero b r).1 hh)
    rw [← firstN_ok hz]
    rw [firstN] at hz ⊢
    split at hz <;> rename_i h1
    · exact absurd rfl hz
    · rw [if_neg h1]
      split at hz <;> rename_i h2
      · exact absurd rfl hz
      · split at hz <;> rename_i h3
        · exact absurd rfl hz
        · rw [if_neg h3]
          cases hi : isLetter _
          · exact absurd (Or.inr hi) h3
          · rfl

/-! ### letters as bytes, letters as units -/
def utf8B (n : Nat) : List UInt8 :=
  if n < 128 then [UInt8.ofNat n]
  else if n < 2048 then [UInt8.ofNat (192 + n / 64), UInt8.ofNat (128 + n % 64)]
  else if n < 65536 then [UInt8.ofNat (224 + n / 4096), UInt8.ofNat (128 + n / 64 % 64), UInt8.ofNat (128 + n % 64)]
  else [UInt8.ofNat (240 + n / 262144), UInt8.ofNat (128 + n / 4096 % 64), UInt8.ofNat (128 + n / 64 % 64), UInt8.ofNat (128 + n % 64)]
theorem letter_iff {n : Nat} : isLetter n = true ↔ n ≤ 1114111 ∧ (n < 55296 ∨ 57343 < n) := by simp [isLetter]
theorem ofNat_toNat {n : Nat} (h : n < 256) : (UInt8.ofNat n).toNat = n := by simp; omega
theorem dec_1 {m n0 n1 n2 n3 n : Nat} (h : n0 = n) (h1 : n < 128) : decodeN m n0 n1 n2 n3 = (n, 1) := by
  unfold decodeN; rw [h, if_pos h1]
theorem dec_2 {m n0 n1 n2 n3 n : Nat} (h0 : n0 = 192 + n / 64) (h1 : n1 = 128 + n % 64) (hm : 2 ≤ m) (hn : 128 ≤ n ∧ n < 2048) : decodeN m n0 n1 n2 n3 = (n, 2) := by
  unfold decodeN
  rw [if_neg (by omega), if_pos (by omega), if_pos (by omega)]
  congr 1; omega
theorem dec_3 {m n0 n1 n2 n3 n : Nat} (h0 : n0 = 224 + n / 4096) (h1 : n1 = 128 + n / 64 % 64) (h2 : n2 = 128 + n % 64) (hm : 3 ≤ m) (hn : 2048 ≤ n ∧ n < 65536) (hl : n < 55296 ∨ 57343 < n) : decodeN m n0 n1 n2 n3 = (n, 3) := by
  unfold decodeN
  rw [if_neg (by omega), if_neg (by omega), if_pos (by omega)]
  have e : n0 % 16 * 4096 + n1 % 64 * 64 + n2 % 64 = n := by omega
  rw [e, if_pos (by omega)]
theorem dec_4 {m n0 n1 n2 n3 n : Nat} (h0 : n0 = 240 + n / 262144) (h1 : n1 = 128 + n / 4096 % 64) (h2 : n2 = 128 + n / 64 % 64) (h3 : n3 = 128 + n % 64) (hm : 4 ≤ m) (hn : 65536 ≤ n ∧ n ≤ 1114111) : decodeN m n0 n1 n2 n3 = (n, 4) := by
  unfold decodeN
  rw [if_neg (by omega), if_neg (by omega), if_neg (by omega), if_pos (by omega)]
  have e : n0 % 8 * 262144 + n1 % 64 * 4096 + n2 % 64 * 64 + n3 % 64 = n := by omega
  rw [e, if_pos (by omega)]
theorem decode_utf8 {n : Nat} (h : isLetter n = true) (r : List UInt8) : decodeL (utf8B n ++ r) = (n, (utf8B n).length) := by
  rw [letter_iff] at h
  rw [decodeL_N]
  unfold utf8B
  by_cases h1 : n < 128
  · rw [if_pos h1]
    exact dec_1 (ofNat_toNat (by omega)) h1
  · rw [if_neg h1]
    by_cases h2 : n < 2048
    · rw [if_pos h2]
      exact dec_2 (ofNat_toNat (by omega)) (ofNat_toNat (by omega)) (by simp) (by omega)
    · rw [if_neg h2]
      by_cases h3 : n < 65536
      · rw [if_pos h3]
        exact dec_3 (ofNat_toNat (by omega)) (ofNat_toNat (by omega)) (ofNat_toNat (by omega)) (by simp) (by omega) h.2
      · rw [if_neg h3]
        exact dec_4 (ofNat_toNat (by omega)) (ofNat_toNat (by omega)) (ofNat_toNat (by omega)) (ofNat_toNat (by omega)) (by simp) (by omega)
theorem bad_ne {x : Nat × Nat} (h : x ≠ (65533, 1)) : bad x = x := by simp [bad, h]
theorem toNat_ofNat (b : UInt8) {n : Nat} (h : b.toNat = n) : UInt8.ofNat n = b := by rw [← h]; exact UInt8.ofNat_toNat
theorem utf8_decode {l : List UInt8} (hl : l ≠ []) (h : decodeL l ≠ (65533, 1)) : utf8B (decodeL l).1 = l.take (decodeL l).2 := by
  have hb := bad_ne h
  rw [← hb]
  rw [decodeL_N] at hb h ⊢
  match l with
  | b0 :: r =>
    have y0 := b0.toNat_lt
    have y1 : ((b0 :: r).getD 1 0).toNat < 256 := UInt8.toNat_lt _
    have y2 : ((b0 :: r).getD 2 0).toNat < 256 := UInt8.toNat_lt _
    have y3 : ((b0 :: r).getD 3 0).toNat < 256 := UInt8.toNat_lt _
    have e0 : ((b0 :: r).getD 0 0) = b0 := rfl
    rw [e0] at hb h ⊢
    by_cases c0 : b0.toNat < 128
    · have e : decodeN (b0 :: r).length b0.toNat ((b0 :: r).getD 1 0).toNat ((b0 :: r).getD 2 0).toNat ((b0 :: r).getD 3 0).toNat = (b0.toNat, 1) := by unfold decodeN; rw [if_pos c0]
      rw [hb, e]
      simp [utf8B, c0]
    by_cases c1 : b0.toNat < 192
    · exact absurd (decodeN_bad _ _ _ _ _ (Or.inl ⟨by omega, by omega⟩)) h
    by_cases c2 : b0.toNat < 224
    · have e := dec2 (n := (b0 :: r).length) (b2 := ((b0 :: r).getD 2 0).toNat) (b3 := ((b0 :: r).getD 3 0).toNat) ⟨by omega, c2⟩ y1
      rw [e]
      split at e
      · rw [hb] at e
        rename_i hx
        have hw := decodeL_width (b0 :: r)
        rw [decodeL_N, e0, e] at hw
        exact absurd hw (by decide)
      · rename_i hx
        rw [if_neg hx]
        match r with
        | [] => simp at hx
        | b1 :: r =>
          simp only [List.getD_cons_succ, List.getD_cons_zero, cb] at hx y1 ⊢
          rw [utf8B, if_neg (by omega), if_pos (by omega)]
          simp only [List.take_succ_cons, List.take_zero]
          rw [toNat_ofNat b0 (by omega), toNat_ofNat b1 (by omega)]
    by_cases c3 : b0.toNat < 240
    · have e := dec3 (n := (b0 :: r).length) (b3 := ((b0 :: r).getD 3 0).toNat) ⟨by omega, c3⟩ y1 y2
      rw [e]
      split at e
      · rw [hb] at e
        have hw := decodeL_width (b0 :: r)
        rw [decodeL_N, e0, e] at hw
        exact absurd hw (by decide)
      · rename_i hx
        rw [if_neg hx]
        match r with
        | [] => simp at hx
        | [b1] => simp at hx
        | b1 :: b2 :: r =>
          simp only [List.getD_cons_succ, List.getD_cons_zero, cb, isL] at hx y1 y2 ⊢
          rw [utf8B, if_neg (by omega), if_neg (by omega), if_pos (by omega)]
          simp only [List.take_succ_cons, List.take_zero]
          rw [toNat_ofNat b0 (by omega), toNat_ofNat b1 (by omega), toNat_ofNat b2 (by omega)]
    by_cases c4 : b0.toNat < 248
    · have e := dec4 (n := (b0 :: r).length) ⟨by omega, c4⟩ y1 y2 y3
      rw [e]
      split at e
      · rw [hb] at e
        have hw := decodeL_width (b0 :: r)
        rw [decodeL_N, e0, e] at hw
        exact absurd hw (by decide)
      · rename_i hx
        rw [if_neg hx]
        match r with
        | [] => simp at hx
        | [b1] => simp at hx
        | [b1, b2] => simp at hx
        | b1 :: b2 :: b3 :: r =>
          simp only [List.getD_cons_succ, List.getD_cons_zero, cb, isL] at hx y1 y2 y3 ⊢
          rw [utf8B, if_neg (by omega), if_neg (by omega), if_neg (by omega)]
          simp only [List.take_succ_cons, List.take_zero]
          rw [toNat_ofNat b0 (by omega), toNat_ofNat b1 (by omega), toNat_ofNat b2 (by omega), toNat_ofNat b3 (by omega)]
    · exact absurd (decodeN_bad _ _ _ _ _ (Or.inr ⟨by omega, by omega⟩)) h
theorem codes_bytes : ∀ (n : Nat) (l : List UInt8), l.length ≤ n → validD l = true → (codesF n l).flatMap utf8B = l ∧ ∀ c ∈ codesF n l, isLetter c = true
  | 0, l, h, _ => by
    have : l = [] := List.eq_nil_of_length_eq_zero (by omega)
    subst this; simp [codesF]
  | n + 1, l, h, hv => by
    by_cases hl : l = []
    · subst hl; simp [codesF]
    · have hw := decodeL_width l
      rw [validD_step l hl] at hv
      by_cases hb : decodeL l = (65533, 1)
      · rw [hb] at hv; simp at hv
      · rw [if_neg (fun hh => hb (Prod.ext hh.1 hh.2))] at hv
        have hp : 0 < l.length := List.length_pos_iff.2 hl
        have ih := codes_bytes n (l.drop (decodeL l).2) (by rw [List.length_drop]; omega) hv
        rw [codesF, if_neg hl, List.flatMap_cons, utf8_decode hl hb, ih.1, List.take_append_drop]
        refine ⟨rfl, fun c hc => ?_⟩
        rcases List.mem_cons.1 hc with rfl | hc
        · exact code_letter hb hl
        · exact ih.2 c hc
theorem utf8B_pos (n : Nat) : 0 < (utf8B n).length := by
  unfold utf8B
  by_cases h1 : n < 128
  · rw [if_pos h1]; exact Nat.zero_lt_succ _
  · by_cases h2 : n < 2048
    · rw [if_neg h1, if_pos h2]; exact Nat.zero_lt_succ _
    · by_cases h3 : n < 65536
      · rw [if_neg h1, if_neg h2, if_pos h3]; exact Nat.zero_lt_succ _
      · rw [if_neg h1, if_neg h2, if_neg h3]; exact Nat.zero_lt_succ _
theorem letter_ne {n : Nat} (h : isLetter n = true) (r : List UInt8) : ¬ ((decodeL (utf8B n ++ r)).1 = 65533 ∧ (decodeL (utf8B n ++ r)).2 = 1) := by
  rw [decode_utf8 h]
  rintro ⟨h1, h2⟩
  simp only at h1 h2
  subst h1
  exact absurd h2 (by decide)
theorem bytes_codes : ∀ (ls : List Nat), (∀ c ∈ ls, isLetter c = true) → validD (ls.flatMap utf8B) = true ∧ codesL (ls.flatMap utf8B) = ls
  | [], _ => ⟨rfl, rfl⟩
  | c :: ls, h => by
    have hc := h c (by simp)
    have ih := bytes_codes ls (fun x hx => h x (by simp [hx]))
    have hp := utf8B_pos c
    have hne : utf8B c ++ ls.flatMap utf8B ≠ [] := by
      intro hh
      have := congrArg List.length hh
      rw [List.length_append, List.length_nil] at this
      omega
    rw [List.flatMap_cons, validD_step _ hne, codesL_step _ hne, if_neg (letter_ne hc _), decode_utf8 hc]
    simp only [List.drop_left]
    exact ⟨ih.1, by rw [ih.2]⟩
def leB2 (n : Nat) : List UInt8 := [UInt8.ofNat n, UInt8.ofNat (n / 256)]
def unitB (n : Nat) : List UInt8 := if n < 65536 then leB2 n else leB2 (55296 + (n - 65536) / 1024) ++ leB2 (56320 + (n - 65536) % 1024)
def getF : List UInt8 → Option (List Nat)
  | [] => some []
  | [_] => none
  | a :: b :: r =>
    if 55296 ≤ a.toNat + 256 * b.toNat ∧ a.toNat + 256 * b.toNat < 56320 then
      match r with
      | c :: d :: r' => if 220 ≤ d.toNat ∧ d.toNat ≤ 223 then (getF r').map fun ls => (65536 + 1024 * (a.toNat + 256 * b.toNat - 55296) + (c.toNat + 256 * d.toNat) - 56320) :: ls else none
      | _ => none
    else if isLetter (a.toNat + 256 * b.toNat) then (getF r).map fun ls => (a.toNat + 256 * b.toNat) :: ls else none
theorem get_units : ∀ (ls : List Nat), (∀ c ∈ ls, isLetter c = true) → getF (ls.flatMap unitB) = some ls
  | [], _ => rfl
  | c :: ls, h => by
    have hc := h c (by simp)
    have ih := get_units ls (fun x hx => h x (by simp [hx]))
    have hc' := letter_iff.1 hc
    rw [List.flatMap_cons]
    unfold unitB
    by_cases h1 : c < 65536
    · rw [if_pos h1]
      have e0 : (UInt8.ofNat c).toNat + 256 * (UInt8.ofNat (c / 256)).toNat = c := by simp; omega
      show getF (UInt8.ofNat c :: UInt8.ofNat (c / 256) :: ls.flatMap unitB) = _
      unfold getF
      rw [e0, if_neg (by omega), if_pos hc, ih]; rfl
    · rw [if_neg h1]
      have e0 : (UInt8.ofNat (55296 + (c - 65536) / 1024)).toNat + 256 * (UInt8.ofNat ((55296 + (c - 65536) / 1024) / 256)).toNat = 55296 + (c - 65536) / 1024 := by simp; omega
      have e1 : (UInt8.ofNat (56320 + (c - 65536) % 1024)).toNat + 256 * (UInt8.ofNat ((56320 + (c - 65536) % 1024) / 256)).toNat = 56320 + (c - 65536) % 1024 := by simp; omega
      have e2 : (UInt8.ofNat ((56320 + (c - 65536) % 1024) / 256)).toNat = (56320 + (c - 65536) % 1024) / 256 := by simp; omega
      show getF (UInt8.ofNat (55296 + (c - 65536) / 1024) :: UInt8.ofNat ((55296 + (c - 65536) / 1024) / 256) :: UInt8.ofNat (56320 + (c - 65536) % 1024) :: UInt8.ofNat ((56320 + (c - 65536) % 1024) / 256) :: ls.flatMap unitB) = _
      unfold getF
      rw [e0, if_pos (by omega)]
      simp only
      rw [e1, e2, if_pos (by omega), ih]
      simp
      omega
theorem unit_of {a b : UInt8} {n : Nat} (h : n = a.toNat + 256 * b.toNat) : leB2 n = [a, b] := by
  have := a.toNat_lt
  have := b.toNat_lt
  unfold leB2
  congr 1
  · apply UInt8.toNat_inj.1; simp; omega
  · congr 1; apply UInt8.toNat_inj.1; simp; omega
theorem units_get : ∀ (n : Nat) (l : List UInt8) (ls : List Nat), l.length ≤ n → getF l = some ls → ls.flatMap unitB = l ∧ ∀ c ∈ ls, isLetter c = true
  | _, [], ls, _, h => by
    simp [getF] at h
    subst h; simp
  | _, [_], ls, _, h => by simp [getF] at h
  | 0, a :: b :: r, ls, hn, _ => by simp at hn
  | 1, a :: b :: r, ls, hn, _ => by simp at hn
  | n + 2, a :: b :: r, ls, hn, h => by
    have ya := a.toNat_lt
    have yb := b.toNat_lt
    unfold getF at h
    by_cases h1 : 55296 ≤ a.toNat + 256 * b.toNat ∧ a.toNat + 256 * b.toNat < 56320
    · rw [if_pos h1] at h
      match r, h with
      | [], h => simp at h
      | [_], h => simp at h
      | c :: d :: r', h =>
        have yc := c.toNat_lt
        have yd := d.toNat_lt
        simp only at h
        by_cases h2 : 220 ≤ d.toNat ∧ d.toNat ≤ 223
        · rw [if_pos h2] at h
          cases hg : getF r' with
          | none => rw [hg] at h; simp at h
          | some ls' =>
            rw [hg, Option.map_some] at h
            injection h with h
            subst h
            have ih := units_get n r' ls' (by rw [List.length_cons, List.length_cons] at hn; rw [List.length_cons, List.length_cons] at hn; omega) hg
            have hb : ¬ 65536 + 1024 * (a.toNat + 256 * b.toNat - 55296) + (c.toNat + 256 * d.toNat) - 56320 < 65536 := by omega
            rw [List.flatMap_cons, ih.1, unitB, if_neg hb, unit_of (a := a) (b := b) (by omega), unit_of (a := c) (b := d) (by omega)]
            refine ⟨rfl, fun x hx => ?_⟩
            rcases List.mem_cons.1 hx with he | hx
            · rw [he, letter_iff]; omega
            · exact ih.2 x hx
        · rw [if_neg h2] at h; cases h
    · rw [if_neg h1] at h
      by_cases h2 : isLetter (a.toNat + 256 * b.toNat) = true
      · rw [if_pos h2] at h
        cases hg : getF r with
        | none => rw [hg] at h; simp at h
        | some ls' =>
          rw [hg, Option.map_some] at h
          injection h with h
          subst h
          have ih := units_get n r ls' (by simp at hn; omega) hg
          rw [List.flatMap_cons, ih.1, unitB, if_pos (by omega), unit_of (a := a) (b := b) rfl]
          refine ⟨rfl, fun x hx => ?_⟩
          rcases List.mem_cons.1 hx with rfl | hx
          · exact h2
          · exact ih.2 x hx
      · rw [if_neg h2] at h; cases h
/-- a text's bytes -/
def txtB (l : List UInt8) : Option (List UInt8) := if validD l then some ((codesL l).flatMap unitB) else none
/-- the text of bytes -/
def txtG (b : List UInt8) : Option (List UInt8) := (getF b).map fun ls => ls.flatMap utf8B
theorem txt_back {l b : List UInt8} (h : txtB l = some b) : txtG b = some l := by
  unfold txtB at h
  split at h
  · rename_i hv
    injection h with h
    have : (codesL l).flatMap utf8B = l ∧ ∀ c ∈ codesL l, isLetter c = true := codes_bytes l.length l (Nat.le_refl _) hv
    unfold txtG
    rw [← h, get_units _ this.2]
    exact congrArg some this.1
  · cases h
theorem txt_once {l b : List UInt8} (h : txtG b = some l) : txtB l = some b := by
  unfold txtG at h
  cases hg : getF b with
  | none => rw [hg] at h; cases h
  | some ls =>
    rw [hg] at h
    injection h with h
    have h1 := units_get b.length b ls (Nat.le_refl _) hg
    have h2 := bytes_codes ls h1.2
    rw [show ls.flatMap utf8B = l from h] at h2
    unfold txtB
    rw [if_pos h2.1, h2.2, h1.1]
end Go.Proofs.YtinfdomlpbikaaaGreatDoor
namespace Go.Proofs.YtinfdomlpbikaaaGreatDoor
open Go.Eng Go.Lib
set_option linter.unusedSimpArgs false
set_option linter.unusedVariables false
set_option maxRecDepth 100000
variable {w : World}
theorem wrap64_nat (n : Nat) (h : n < 9223372036854775808) : IntKind.i64.wrap (n : Int) = n := wrap64_id (by omega) (by omega)
end Go.Proofs.YtinfdomlpbikaaaGreatDoor
namespace Go.Proofs.YtinfdomlpbikaaaGreatDoor
open Go.Eng Go.Lib
set_option linter.unusedSimpArgs false
set_option linter.unusedVariables false
set_option maxRecDepth 100000
variable {w : World}
theorem str_len (s : ByteArray) : s.data.toList.length = s.size := Array.length_toList
end Go.Proofs.YtinfdomlpbikaaaGreatDoor
namespace Go.Proofs.YtinfdomlpbikaaaGreatDoor
open Go.Eng Go.Lib
set_option linter.unusedSimpArgs false
set_option linter.unusedVariables false
set_option maxRecDepth 100000
variable {w : World}
def unitL (n : Nat) : List Nat := if n < 65536 then [n] else [55296 + (n - 65536) / 1024, 56320 + (n - 65536) % 1024]
theorem unitB_eq (n : Nat) : unitB n = (unitL n).flatMap leB2 := by
  unfold unitB unitL
  split <;> simp
theorem unitL_len (n : Nat) : (unitL n).length ≤ 2 := by unfold unitL; split <;> simp
/-- a readable row's own cells, one by one -/
theorem row_cells {size n b off cap : Nat} {xs : List Value} (h : RowAt w size (.slice (some ⟨b, off, none⟩) n cap) n xs) : ∀ j u, xs[j]? = some u → w.cell? ((⟨b, off, none⟩ : Addr).add j) = some u := by
  intro j u hu
  rcases h.2 with ⟨p, c, _, rfl⟩ | ⟨b', off', c', cs, e, f, hv, hb, hle, htake⟩
  · have h0 := h.1
    simp at h0
    rw [h0] at hu
    cases hu
  · cases hv
    rw [cell?_add, hb, cellIn_some, ← Array.getElem?_toList, ← List.getElem?_drop]
    rw [← htake, List.getElem?_take] at hu
    split at hu
    · exact hu
    · cases hu
/-- append to a slice of the call's own: where the new one lies, too -/
theorem sl_append_at {P : Program} {t e : TypeId} {size bytes : Nat} (T : SlT P t e size bytes) {w : World} {base : Nat} {v s : Value} {n m : Nat} {xs news : List Value} (own : w.ownsX base e size v n xs) (src : RowAt w size s m news) (ty : TypeId) (h1 : ∀ u ∈ news, u.oneCell' = true)
    (hroom : (n + m) * bytes ≤ 140737488355328) (hmax : n + m ≤ maxLen) (hbase : base ≤ w.heap.size) (h8 : e = 5 → ∀ u ∈ news, IsU8 u := by first | exact fun h => absurd h (by decide) | exact fun _ => u8_is _) :
    ∃ v' w', (Builtin.append_ #[t, t] ty #[v, s]).run P w = .ok v' w' ∧ w'.ownsX base e size v' (n + m) (xs ++ news) ∧ w.grownBy w' v.ownBlock ∧ (v'.ownBlock = v.ownBlock ∨ v'.ownBlock = some w.heap.size) := by
  obtain ⟨i, z, hi, hz, hs, hb, hzs⟩ := T.info
  rcases src.2 with ⟨p, cap, rfl, rfl⟩ | ⟨b, off, cap, c, te, f, rfl, hbb, hle, htake⟩
  · have hn : news = [] := List.eq_nil_of_length_eq_zero (by simpa using src.1)
    subst hn
    cases p with
    | some a =>
      obtain ⟨v', w', h1, h2, h3, _, h4⟩ := run_append_own_at w base t ty e i z size bytes T.ht hi hz hs hb hzs T.pos v n xs own.row a 0 cap [] (by simp) (by simp) (by simp) hmax hroom hbase
      exact ⟨v', w', h1, ⟨h2, T.fills own ty a 0 cap [] (by simp) (by simp) (by simp) (by simp) hmax hroom h1⟩, h3, h4⟩
    | none =>
      refine ⟨v, w, ?_, by simpa using own, ⟨rfl, rfl, rfl, Nat.le_refl _, fun _ _ _ => rfl⟩, Or.inl rfl⟩
      rcases own.row.2 with ⟨rfl, rfl⟩ | ⟨g, cap', cur, rfl, hbg, hg, hnc, hcm, hcs, htake⟩
      · simp [Builtin.append_, run_underlying T.ht, sizeOf, typeInfo, hi, Builtin.lenOf, Builtin.firstCells]
      · simp [Builtin.append_, run_underlying T.ht, sizeOf, typeInfo, hi, Builtin.lenOf, Builtin.firstCells, hnc, storeCells]
  · obtain ⟨v', w', g1, h2, h3, _, h4⟩ := run_append_own_at w base t ty e i z size bytes T.ht hi hz hs hb hzs T.pos v n xs own.row ⟨b, off, none⟩ m cap news src.1 (row_cells src) h1 hmax hroom hbase
    exact ⟨v', w', g1, ⟨h2, T.fills own ty _ m cap news src.1 (row_cells src) h1 h8 hmax hroom g1⟩, h3, h4⟩
abbrev obS (v : Value) (b : Nat) : Prop := v.ownBlock = some b
/-- bytes written out, then appended: where the new slice lies, too -/
theorem pushN_at {w : World} {base : Nat} {v : Value} {l : List UInt8} (own : OwnB w base v l) (bs : List UInt8) (ty : TypeId) (hroom : l.length + bs.length ≤ 140737488355328) (hbase : base ≤ w.heap.size) :
    ∃ v' w', (Builtin.append_ #[31, 31] ty #[v, .slice (some ⟨w.heap.size, 0, none⟩) bs.length bs.length]).run Tryz.prog (w.alloc (.cells (bs.map u8V).toArray 5)) = .ok v' w' ∧ OwnB w' base v' (l ++ bs) ∧
      Upd (obS v) w w' ∧ (v'.ownBlock = v.ownBlock ∨ v'.ownBlock = some (w.heap.size + 1)) := by
  have ua : Upd noB w (w.alloc (.cells (bs.map u8V).toArray 5)) := (Upd.refl _ _).alloc _
  have own1 : OwnB (w.alloc (.cells (bs.map u8V).toArray 5)) base v l := own_keep0 own ua
  have src : RowAt (w.alloc (.cells (bs.map u8V).toArray 5)) 1 (.slice (some ⟨w.heap.size, 0, none⟩) bs.length bs.length) bs.length (bs.map u8V) := by
    refine ⟨by simp, Or.inr ⟨w.heap.size, 0, bs.length, _, _, _, rfl, by rw [heap_alloc, if_pos rfl], by simp, ?_⟩⟩
    simp
    rw [← List.map_take, List.take_length]
  obtain ⟨v', w', h1, h2, h3, h4⟩ := sl_append_at slByte own1 src ty (u8_one bs) (by omega) (by simp [maxLen]; omega) (by simp; omega)
  refine ⟨v', w', h1, ?_, ?_, by simpa using h4⟩
  · unfold OwnB
    rw [List.length_append, List.map_append]
    exact h2
  · exact ((Upd.refl _ _).alloc _).grown h3 (fun k hk _ => hk)
end Go.Proofs.YtinfdomlpbikaaaGreatDoor
namespace Go.Proofs.YtinfdomlpbikaaaGreatDoor
open Go.Eng Go.Lib
set_option linter.unusedSimpArgs false
set_option linter.unusedVariables false
set_option maxRecDepth 100000
variable {w : World}
theorem b2 (x y : UInt8) (w : World) (k : Value → World → Prop) : K_buildSlice Tryz.prog 31 2 #[(0, .int .u8 (x.toNat : Int)), (1, .int .u8 (y.toNat : Int))] w k = k (.slice (some ⟨w.heap.size, 0, none⟩) 2 2) (w.alloc (.cells ([x, y].map u8V).toArray 5)) :=
  slByte.buildN (w := w) 2 #[(0, .int .u8 (x.toNat : Int)), (1, .int .u8 (y.toNat : Int))] rfl (by simp [Value.cells]) (by decide) (by decide) k
theorem u8_wrap (n : Nat) : IntKind.u8.wrap (n : Int) = ((UInt8.ofNat n).toNat : Int) := by
  simp only [IntKind.wrap, IntKind.bits, IntKind.signed]; simp
theorem wrap8_mod (x : Nat) : ((x : Int) % 256) = IntKind.u8.wrap (x : Int) := by
  simp only [IntKind.wrap, IntKind.bits, IntKind.signed]; simp
theorem flat_snoc {α β : Type} (f : α → List β) (l : List α) (i : Nat) (x : α) (h : l[i]? = some x) : (l.take (i + 1)).flatMap f = (l.take i).flatMap f ++ f x := by
  rw [List.take_add_one, h, List.flatMap_append]
  simp
theorem leB2_flat_len (l : List Nat) : (l.flatMap leB2).length = 2 * l.length := by
  induction l with
  | nil => rfl
  | cons a l ih => rw [List.flatMap_cons, List.length_append, ih]; simp [leB2]; omega
theorem unitB_len (n : Nat) : (unitB n).length ≤ 4 := by
  rw [unitB_eq, leB2_flat_len]
  have := unitL_len n
  omega
theorem unitB_flat_len (l : List Nat) : (l.flatMap unitB).length ≤ 4 * l.length := by
  induction l with
  | nil => exact Nat.le_refl _
  | cons a l ih =>
    rw [List.flatMap_cons, List.length_append, List.length_cons]
    have := unitB_len a
    omega
end Go.Proofs.YtinfdomlpbikaaaGreatDoor
namespace Go.Proofs
open Go.Shelf
def Tryz.validL_ren : Go.Shelf.Ren := ⟨fun | 196 => 196 | 259 => 201 | n => n, fun | 9 => 9 | 4 => 4 | 3 => 3 | 5 => 5 | 12 => 12 | 119 => 207 | 0 => 0 | 46 => 107 | 139 => 210 | 138 => 209 | 53 => 25 | n => n, fun | 3 => 1 | 4 => 2 | n => n⟩
theorem Tryz.validL : Go.Proofs.Lays.n196 Tryz.prog Tryz.validL_ren := {
  mixed := by kernel_rfl
  f196 := Tryz.func196.trans (congrArg some (by kernel_rfl))
  f259 := Tryz.func201.trans (congrArg some (by kernel_rfl))
  t0 := Tryz.underlying0
  a0 := Tryz.isAgg0
  z0 := Tryz.sizeOf0
  v0 := Tryz.zeroValue0
  t3 := Tryz.underlying3
  a3 := Tryz.isAgg3
  z3 := Tryz.sizeOf3
  v3 := Tryz.zeroValue3
  t4 := Tryz.underlying4
  a4 := Tryz.isAgg4
  z4 := Tryz.sizeOf4
  v4 := Tryz.zeroValue4
  t5 := Tryz.underlying5
  a5 := Tryz.isAgg5
  z5 := Tryz.sizeOf5
  v5 := Tryz.zeroValue5
  t9 := Tryz.underlying9
  a9 := Tryz.isAgg9
  z9 := Tryz.sizeOf9
  v9 := Tryz.zeroValue9
  t12 := Tryz.underlying12
  a12 := Tryz.isAgg12
  z12 := Tryz.sizeOf12
  v12 := Tryz.zeroValue12
  t46 := Tryz.underlying107
  a46 := Tryz.isAgg107
  z46 := Tryz.sizeOf107
  v46 := Tryz.zeroValue107
  t53 := Tryz.underlying25
  a53 := Tryz.isAgg25
  z53 := Tryz.sizeOf25
  v53 := Tryz.zeroValue25
  t119 := Tryz.underlying207
  a119 := Tryz.isAgg207
  z119 := Tryz.sizeOf207
  t138 := Tryz.underlying209
  a138 := Tryz.isAgg209
  z138 := Tryz.sizeOf209
  v138 := Tryz.zeroValue209
  t139 := Tryz.underlying210
  a139 := Tryz.isAgg210
  z139 := Tryz.sizeOf210
  v139 := Tryz.zeroValue210
  g3 := by kernel_rfl
  g4 := by kernel_rfl }
end Go.Proofs
namespace Go.Proofs.YtinfdomlpbikaaaGreatDoor
open Go.Eng Go.Lib Go.RowKit
set_option linter.unusedSimpArgs false
set_option linter.unusedVariables false
set_option maxRecDepth 100000
variable {w : World}
/-- Go's own tables of UTF-8 are there -/
def Tabs (w : World) : Prop := Lib.Utf8Tabs (Tryz.validL_ren.g 3) (Tryz.validL_ren.g 4) w
theorem upd_below {w w' : World} (h : Upd noB w w') : Below w.heap.size w w' := ⟨h.os, h.tape, h.output, h.size, fun k hk => h.block k hk (fun x => x)⟩
theorem below_upd {w w' : World} (h : Below w.heap.size w w') : Upd noB w w' := ⟨h.os, h.tape, h.output, h.size, fun k hk _ => h.block k hk⟩
theorem Tabs.keep0 {w w' : World} (h : Tabs w) (hu : Upd noB w w') : Tabs w' := Utf8Tabs_below h (upd_below hu)
theorem valid_any (s : ByteArray) (hs : s.size ≤ 1099511627776) (hT : Tabs w) : CallP Tryz.prog 196 #[.string s] w (fun r w' => r = .bool (validD s.data.toList) ∧ Upd noB w w') :=
  Calls.mono (Any.utf8_ValidString Tryz.validL s w (by omega) hT) (fun e w' ⟨he, hb⟩ => ⟨_, he, rfl, below_upd hb⟩)
theorem K_range_str {P : Program} {t : TypeId} (ht : P.underlying t = some .string) (s : ByteArray) (w : World) (k : Value → World → Prop) : K_range P t (.string s) w k = k (.pointer (some ⟨w.heap.size, 0, none⟩)) (w.alloc (.stringIter s 0)) :=
  K_range_ok _ _ _ (run_range_string w t s ht)
theorem K_next_str {P : Program} {w : World} {it : Nat} {s : ByteArray} {pos : Nat} (hb : w.heap[it]? = some (.stringIter s pos)) (h : pos < s.size) (ty : TypeId) (k : Value → World → Prop) :
    K_next P (.pointer (some ⟨it, 0, none⟩)) true ty w k = k (.tuple #[.bool true, .int .i64 pos, .int .i32 (Utf8.decode s pos).1]) (w.setB it (.stringIter s (pos + (Utf8.decode s pos).2))) := by
  refine K_next_ok _ _ _ _ ?_
  simp only [Instr.next, getObj, setObj, Sem.run_bind, Sem.run, hb, Result.andThen, h, if_true]
  rfl
theorem K_next_str_end {P : Program} {w : World} {it : Nat} {s : ByteArray} {pos : Nat} (hb : w.heap[it]? = some (.stringIter s pos)) (h : ¬ pos < s.size) (ty : TypeId) (k : Value → World → Prop) :
    K_next P (.pointer (some ⟨it, 0, none⟩)) true ty w k = k (.tuple #[.bool false]) w := by
  refine K_next_ok _ _ _ _ ?_
  simp [Instr.next, getObj, Sem.run, hb, h]
theorem getD_drop (l : List UInt8) (a k : Nat) : (l.drop a).getD k 0 = l.getD (a + k) 0 := by
  simp [List.getD, List.getElem?_drop]
theorem decode_drop (s : ByteArray) (pos : Nat) : Utf8.decode s pos = decodeL (s.data.toList.drop pos) := by
  rw [decode_N, decodeL_N, getD_drop, getD_drop, getD_drop, getD_drop, List.length_drop]
  rfl
def UnI (s : ByteArray) (w0 : World) (it : Nat) (m : Nat) (ρ : Env) (w : World) : Prop :=
  ∃ (pos : Nat) (n : Int), m = s.size - pos ∧ ρ 4 = .int .i64 n ∧ ρ 11 = .pointer (some ⟨it, 0, none⟩) ∧ Upd noB w0 w ∧ w0.heap.size ≤ it ∧ w.heap[it]? = some (.stringIter s pos)
set_option maxHeartbeats 2000000 in
theorem utfUnits_any (s : ByteArray) (hs : s.size ≤ 1099511627776) (hT : Tabs w) : CallP Tryz.prog 184 #[.string s] w (fun r w' => ∃ n : Int, r = .tuple #[.int .i64 n, .int .i64 (if validD s.data.toList then 0 else 5)] ∧ Upd noB w w') := by
  refine call_den (args := [_]) Tryz.func184 rfl rfl (by simp [Tryz.ntmps184]) ?_
  simp [go_sem]
  refine CallP.mono (valid_any s hs hT) ?_
  rintro _ w1 ⟨rfl, u1⟩
  cases hv : validD s.data.toList with
  | false =>
    simp [go_sem]
    exact u1
  | true =>
    simp [go_sem, K_range_str Tryz.underlying9]
    refine den_loop (UnI s w w1.heap.size) s.size ?_ ?_
    · exact ⟨0, 0, rfl, by simp [go_sem], by simp [go_sem], u1.alloc _, u1.size, by rw [heap_alloc, if_pos rfl]⟩
    · rintro m ρ w2 ⟨pos, n, rfl, g4, g11, hu, hit, hb⟩
      by_cases hlt : pos < s.size
      · have hw := width_pos s pos
        obtain ⟨c, hc⟩ : ∃ c, c = (Utf8.decode s pos).1 := ⟨_, rfl⟩
        obtain ⟨p2, hp2⟩ : ∃ p2, p2 = pos + (Utf8.decode s pos).2 := ⟨_, rfl⟩
        have hsb : (w2.setB w1.heap.size (.stringIter s p2)).heap[w1.heap.size]? = some (.stringIter s p2) := by rw [heap_setB, if_pos rfl, hb]; rfl
        have hub : Upd noB w (w2.setB w1.heap.size (.stringIter s p2)) := hu.setB _ _ (fun h => absurd h (by omega))
        by_cases hbig : 65536 ≤ (c : Int)
        · simp [go_sem, g4, g11, K_next_str hb hlt, ← hc, ← hp2, hbig]
          exact ⟨s.size - p2, by omega, p2, _, rfl, (by simp [go_sem]; rfl), by simp [go_sem, g11], hub, hit, hsb⟩
        · simp [go_sem, g4, g11, K_next_str hb hlt, ← hc, ← hp2, hbig]
          exact ⟨s.size - p2, by omega, p2, _, rfl, (by simp [go_sem]; rfl), by simp [go_sem, g11], hub, hit, hsb⟩
      · simp [go_sem, g4, g11, K_next_str_end hb hlt]
        exact hu
end Go.Proofs.YtinfdomlpbikaaaGreatDoor
namespace Go.Proofs.YtinfdomlpbikaaaGreatDoor
open Go.Eng Go.Lib
set_option linter.unusedSimpArgs false
set_option linter.unusedVariables false
set_option maxRecDepth 100000
variable {w : World}
theorem own_ne {base : Nat} {v : Value} {n : Nat} {xs : List Value} {e : TypeId} {size b : Nat} {o : Obj} (own : w.ownsX base e size v n xs) (hb : w.heap[b]? = some o) (ho : ∀ cur, o ≠ .cells cur e (0, 0)) : ¬ obS v b := by
  intro h
  rcases own.row.2 with ⟨rfl, _⟩ | ⟨g, cap, cur, rfl, _, hg, _⟩
  · cases h
  · injection h with h
    subst h
    rw [hg] at hb
    injection hb with hb
    exact ho cur hb.symm
theorem ne_cells {c : Array Value} {t e : TypeId} (h : t ≠ e) (cur : Array Value) : Obj.cells c t (0, 0) ≠ .cells cur e (0, 0) := by
  intro hh
  injection hh with h1 h2
  exact h h2
theorem ne_iter {s : ByteArray} {p : Nat} {e : TypeId} (cur : Array Value) : Obj.stringIter s p ≠ .cells cur e (0, 0) := by
  intro hh
  cases hh
theorem put1_any {bo base : Nat} {v : Value} {l : List UInt8} (n : Nat) (hn : n < 65536) (hb : w.heap[bo]? = some (.cells #[v] 31 (0, 0))) (own : OwnB w base v l) (hroom : l.length + 2 ≤ 140737488355328) (hbase : base ≤ w.heap.size) (hbo : base ≤ bo) :
    CallP Tryz.prog 185 #[.int .i32 n, .pointer (some ⟨bo, 0, none⟩)] w (fun r w' => ∃ v', w'.heap[bo]? = some (.cells #[v'] 31 (0, 0)) ∧ OwnB w' base v' (l ++ leB2 n) ∧ Upd (fun b => b = bo ∨ obS v b) w w') := by
  have hnb := own_ne own hb (ne_cells (by decide))
  have hsb := (old_ne hb).1
  obtain ⟨c0, hc0⟩ : ∃ c0 : UInt8, c0 = UInt8.ofNat n := ⟨_, rfl⟩
  obtain ⟨c1, hc1⟩ : ∃ c1 : UInt8, c1 = UInt8.ofNat (n / 256) := ⟨_, rfl⟩
  have e0 : IntKind.u8.wrap (n : Int) = (c0.toNat : Int) := by rw [hc0, ← u8_wrap]
  have e1 : IntKind.u8.wrap ((n : Int) / 256) = (c1.toNat : Int) := by rw [hc1, ← u8_wrap]; rfl
  have hc : leB2 n = [c0, c1] := by rw [hc0, hc1]; rfl
  obtain ⟨v', w1, hrun, own1, hu1, hob⟩ := pushN_at own [c0, c1] 31 hroom hbase
  have hb1 : w1.heap[bo]? = some (.cells #[v] 31 (0, 0)) := hu1.get hb hnb
  have hrun' : (Builtin.append_ #[31, 31] 31 #[v, .slice (some ⟨w.heap.size, 0, none⟩) 2 2]).run Tryz.prog (w.alloc (.cells #[u8V c0, u8V c1] 5)) = .ok v' w1 := hrun
  refine call_den (args := [_, _]) Tryz.func185 rfl rfl (by simp [Tryz.ntmps185]) ?_
  obtain ⟨p, q, cap, rfl⟩ : ∃ p q cap, v' = .slice p q cap := by
    obtain ⟨p, cap, h⟩ := (RowAt.of_own own1).len
    exact ⟨p, _, cap, h⟩
  simp [go_sem, hb, e0, e1, b2, K_append_ok _ _ _ _ hrun', hb1]
  have hnb1 := own_ne own1 hb1 (ne_cells (by decide))
  have hs : Upd (fun b => b = bo) w1 (w1.setB bo (.cells #[.slice p q cap] 31)) := (Upd.refl _ _).setB _ _ (fun _ => rfl)
  refine ⟨?_, ?_⟩
  · rw [hc]
    exact own_keep own1 hs (fun b hb2 he => hnb1 (by rw [← he]; exact hb2))
  · exact (hu1.mono (fun i _ h => Or.inr h)).trans' hs (fun i hi _ => Or.inl hi)
theorem wrap32i {n : Int} (h1 : -2147483648 ≤ n) (h2 : n < 2147483648) : IntKind.i32.wrap n = n := by
  simp only [IntKind.wrap, IntKind.bits, IntKind.signed]
  simp
  omega
theorem and1023_i32 (x : Nat) (h : x < 2147483648) : bits .and .i32 (x : Int) 1023 = ((x % 1024 : Nat) : Int) := by
  show IntKind.i32.wrap ((BitVec.ofInt 32 (x : Int) &&& BitVec.ofInt 32 ((1023 : Nat) : Int)).toNat : Int) = _
  rw [BitVec.toNat_and, ofInt_u32 x (by omega), ofInt_u32 1023 (by omega)]
  have e : x &&& 1023 = x % 1024 := Nat.and_two_pow_sub_one_eq_mod x 10
  rw [e]
  exact wrap32i (by omega) (by omega)
/-- the letters' loop, ahead of the letter at pos -/
def UPutI (s : ByteArray) (w0 : World) (bo it : Nat) (L : List Nat) (m : Nat) (ρ : Env) (w : World) : Prop :=
  ∃ (pos : Nat) (v : Value) (l : List UInt8), m = s.size - pos ∧ ρ 6 = .pointer (some ⟨bo, 0, none⟩) ∧ ρ 7 = .func (.func 185) #[] #[.pointer (some ⟨bo, 0, none⟩)] ∧ ρ 20 = .pointer (some ⟨it, 0, none⟩) ∧
    w.heap[it]? = some (.stringIter s pos) ∧ w.heap[bo]? = some (.cells #[v] 31 (0, 0)) ∧ OwnB w w0.heap.size v l ∧ Upd noB w0 w ∧ l.length ≤ 4 * pos ∧ pos ≤ s.size ∧ (∀ c ∈ codesL (s.data.toList.drop pos), isLetter c = true) ∧ L.flatMap unitB = l ++ (codesL (s.data.toList.drop pos)).flatMap unitB
theorem decode_width_le (s : ByteArray) (pos : Nat) (h : pos < s.size) : pos + (Utf8.decode s pos).2 ≤ s.size := by
  rw [decode_drop]
  have hl : (s.data.toList.drop pos).length = s.size - pos := by rw [List.length_drop, str_len]
  have h2 := decodeL_le (s.data.toList.drop pos) (fun h0 => by rw [h0, List.length_nil] at hl; omega)
  omega
set_option maxHeartbeats 4000000 in
theorem utfPut_any (s : ByteArray) (hs : s.size ≤ 1099511627776) (hT : Tabs w) : CallP Tryz.prog 168 #[.string s] w (fun r w' => Upd noB w w' ∧
    match txtB s.data.toList with
    | some b => ∃ v, r = .tuple #[v, .int .i64 0] ∧ OwnB w' w.heap.size v b
    | none => r = .tuple #[.slice none 0 0, .int .i64 5]) := by
  refine call_den (args := [_]) Tryz.func168 rfl rfl (by simp [Tryz.ntmps168]) ?_
  simp [go_sem]
  refine CallP.mono (utfUnits_any s hs hT) ?_
  rintro _ w1 ⟨n, rfl, u1⟩
  unfold txtB
  cases hv : validD s.data.toList with
  | false =>
    simp [go_sem]
    exact u1
  | true =>
    have hlet : ∀ c ∈ codesL s.data.toList, isLetter c = true := (codes_bytes _ s.data.toList (Nat.le_refl _) hv).2
    simp [go_sem, K_range_str Tryz.underlying9]
    refine den_loop (UPutI s w w1.heap.size (w1.heap.size + 1) (codesL s.data.toList)) s.size ?_ ?_
    · refine ⟨0, _, [], rfl, by simp [go_sem], by simp [go_sem], by simp [go_sem], by rw [heap_alloc, if_pos (by simp)], by rw [heap_alloc, if_neg (by simp), heap_alloc, if_pos rfl], World.ownsX_nil _ _ _ _, (u1.alloc _).alloc _, by simp, Nat.zero_le _, hlet, by simp⟩
    · rintro m ρ w2 ⟨pos, v, l, rfl, g6, g7, g20, hit, hbo, own, hu, hll, hps, hall, heq⟩
      have hsz := hu.size
      have h1z := u1.size
      by_cases hlt : pos < s.size
      · have hw := width_pos s pos
        have hwl := decode_width_le s pos hlt
        have hne : s.data.toList.drop pos ≠ [] := by
          intro h0
          have := congrArg List.length h0
          rw [List.length_drop, str_len, List.length_nil] at this
          omega
        have hstep := codesL_step (s.data.toList.drop pos) hne
        rw [List.drop_drop, ← decode_drop] at hstep
        have hnx := K_next_str (P := Tryz.prog) hit hlt
        generalize Utf8.decode s pos = D at hw hwl hstep hnx
        obtain ⟨c, k⟩ := D
        simp only at hw hwl hstep hnx
        have hcl := letter_iff.1 (hall c (by rw [hstep]; simp))
        obtain ⟨p2, hp2⟩ : ∃ p2, p2 = pos + k := ⟨_, rfl⟩
        rw [← hp2] at hstep hnx hwl
        rw [hstep] at hall heq
        have hall2 : ∀ x ∈ codesL (s.data.toList.drop p2), isLetter x = true := fun x hx => hall x (by simp [hx])
        rw [List.flatMap_cons, ← List.append_assoc] at heq
        obtain ⟨W, hW⟩ : ∃ W, W = w2.setB (w1.heap.size + 1) (.stringIter s p2) := ⟨_, rfl⟩
        rw [← hW] at hnx
        have huW : Upd noB w W := by rw [hW]; exact hu.setB _ _ (fun h => absurd h (by omega))
        have hitW : W.heap[w1.heap.size + 1]? = some (.stringIter s p2) := by rw [hW, heap_setB, if_pos rfl, hit]; rfl
        have hboW : W.heap[w1.heap.size]? = some (.cells #[v] 31 (0, 0)) := by rw [hW, heap_setB, if_neg (by omega)]; exact hbo
        have ownW : OwnB W w.heap.size v l := own_keep own (S := fun b => b = w1.heap.size + 1) (by rw [hW]; exact (Upd.refl _ _).setB _ _ (fun _ => rfl)) (fun b hb he => own_ne own hit ne_iter (by rw [← he]; exact hb))
        clear hW
        by_cases hsm : c < 65536
        · have i1 : (c : Int) < 65536 := by omega
          have hub : unitB c = leB2 c := by unfold unitB; rw [if_pos hsm]
          rw [hub] at heq
          simp [go_sem, g6, g7, g20, hnx, i1]
          refine CallP.mono (put1_any c hsm hboW ownW (by omega) huW.size h1z) ?_
          rintro r W2 ⟨v2, hbo2, own2, hu2⟩
          simp [go_sem]
          have hit2 := hu2.get hitW (fun h => by
            rcases h with h | h
            · omega
            · exact own_ne ownW hitW ne_iter h)
          exact ⟨s.size - p2, by omega, p2, v2, l ++ leB2 c, rfl, by simp [go_sem, g6], by simp [go_sem, g7], by simp [go_sem, g20], hit2, hbo2, own2, huW.trans' hu2 (fun b hb hlt => by
            rcases hb with hb | hb
            · omega
            · have := (ownW.lt b hb).1; omega), by simp [leB2]; omega, hwl, hall2, heq⟩
        · have i1 : ¬ (c : Int) < 65536 := by omega
          obtain ⟨d, hd⟩ : ∃ d, d = c - 65536 := ⟨_, rfl⟩
          obtain ⟨x, hx⟩ : ∃ x, x = 55296 + d / 1024 := ⟨_, rfl⟩
          obtain ⟨y, hy⟩ : ∃ y, y = 56320 + d % 1024 := ⟨_, rfl⟩
          have hub : unitB c = leB2 x ++ leB2 y := by unfold unitB; rw [if_neg hsm, hx, hy, hd]
          rw [hub, ← List.append_assoc] at heq
          have hw1 : IntKind.i32.wrap ((c : Int) - 65536) = (d : Int) := by rw [wrap32i (by omega) (by omega)]; omega
          have hw2 : IntKind.i32.wrap (55296 + (d : Int) / 1024) = (x : Int) := by rw [wrap32i (by omega) (by omega)]; omega
          have ha : bits .and .i32 (d : Int) 1023 = ((d % 1024 : Nat) : Int) := and1023_i32 d (by omega)
          obtain ⟨d2, hd2⟩ : ∃ d2, d2 = d % 1024 := ⟨_, rfl⟩
          rw [← hd2] at ha
          have hw3 : IntKind.i32.wrap (56320 + (d2 : Int)) = (y : Int) := by rw [wrap32i (by omega) (by omega)]; omega
          simp [go_sem, g6, g7, g20, hnx, i1, hw1, hw2]
          refine CallP.mono (put1_any x (by omega) hboW ownW (by omega) huW.size h1z) ?_
          rintro r W2 ⟨v2, hbo2, own2, hu2⟩
          have hit2 := hu2.get hitW (fun h => by
            rcases h with h | h
            · omega
            · exact own_ne ownW hitW ne_iter h)
          have huW2 : Upd noB w W2 := huW.trans' hu2 (fun b hb hlt => by
            rcases hb with hb | hb
            · omega
            · have := (ownW.lt b hb).1; omega)
          simp [go_sem, g6, g7, g20, ha, hw3]
          refine CallP.mono (put1_any y (by omega) hbo2 own2 (by simp [leB2]; omega) huW2.size h1z) ?_
          rintro r W3 ⟨v3, hbo3, own3, hu3⟩
          have hit3 := hu3.get hit2 (fun h => by
            rcases h with h | h
            · omega
            · exact own_ne own2 hit2 ne_iter h)
          have huW3 : Upd noB w W3 := huW2.trans' hu3 (fun b hb hlt => by
            rcases hb with hb | hb
            · omega
            · have := (own2.lt b hb).1; omega)
          simp [go_sem]
          exact ⟨s.size - p2, by omega, p2, v3, l ++ leB2 x ++ leB2 y, rfl, by simp [go_sem, g6], by simp [go_sem, g7], by simp [go_sem, g20], hit3, hbo3, own3, huW3, by simp [leB2]; omega, hwl, hall2, heq⟩
      · have he : pos = s.size := by omega
        subst he
        rw [List.drop_of_length_le (by rw [str_len]; exact Nat.le_refl _)] at heq
        have e0 : (codesL []).flatMap unitB = [] := rfl
        rw [e0, List.append_nil] at heq
        simp [go_sem, g6, g7, g20, K_next_str_end hit hlt, hbo]
        rw [heq]
        exact ⟨hu, own⟩
end Go.Proofs.YtinfdomlpbikaaaGreatDoor
namespace Go.Proofs.YtinfdomlpbikaaaGreatDoor
open Go.Eng Go.Lib
set_option linter.unusedSimpArgs false
set_option linter.unusedVariables false
set_option maxRecDepth 100000
variable {w : World}
theorem b1u (x : UInt8) (w : World) (k : Value → World → Prop) : K_buildSlice Tryz.prog 31 1 #[(0, .int .u8 (x.toNat : Int))] w k = k (.slice (some ⟨w.heap.size, 0, none⟩) 1 1) (w.alloc (.cells ([x].map u8V).toArray 5)) :=
  slByte.buildN (w := w) 1 #[(0, .int .u8 (x.toNat : Int))] rfl (by simp [Value.cells]) (by decide) (by decide) k
theorem b3u (x y z : UInt8) (w : World) (k : Value → World → Prop) : K_buildSlice Tryz.prog 31 3 #[(0, .int .u8 (x.toNat : Int)), (1, .int .u8 (y.toNat : Int)), (2, .int .u8 (z.toNat : Int))] w k = k (.slice (some ⟨w.heap.size, 0, none⟩) 3 3) (w.alloc (.cells ([x, y, z].map u8V).toArray 5)) :=
  slByte.buildN (w := w) 3 #[(0, .int .u8 (x.toNat : Int)), (1, .int .u8 (y.toNat : Int)), (2, .int .u8 (z.toNat : Int))] rfl (by simp [Value.cells]) (by decide) (by decide) k
theorem b4u (x y z u : UInt8) (w : World) (k : Value → World → Prop) : K_buildSlice Tryz.prog 31 4 #[(0, .int .u8 (x.toNat : Int)), (1, .int .u8 (y.toNat : Int)), (2, .int .u8 (z.toNat : Int)), (3, .int .u8 (u.toNat : Int))] w k = k (.slice (some ⟨w.heap.size, 0, none⟩) 4 4) (w.alloc (.cells ([x, y, z, u].map u8V).toArray 5)) :=
  slByte.buildN (w := w) 4 #[(0, .int .u8 (x.toNat : Int)), (1, .int .u8 (y.toNat : Int)), (2, .int .u8 (z.toNat : Int)), (3, .int .u8 (u.toNat : Int))] rfl (by simp [Value.cells]) (by decide) (by decide) k
theorem fresh_bytes (l : List UInt8) (w : World) (hl : l.length ≤ 16) : OwnB (w.alloc (.cells (l.map u8V).toArray 5)) w.heap.size (.slice (some ⟨w.heap.size, 0, none⟩) l.length l.length) l := by
  have := own_block (w := w.alloc (.cells (l.map u8V).toArray 5)) (base := w.heap.size) (b := w.heap.size) (cap := l.length) (by rw [heap_alloc, if_pos rfl]) (Nat.le_refl _) (by simp) (by simp [maxLen]; omega)
  simpa using this
/-! ### AppendRune -/
theorem or8 (a : Nat) (b : Nat) (ha : a < 256) (hb : b < 256) : bits .or .u8 (a : Int) (b : Int) = ((a ||| b : Nat) : Int) := by
  show IntKind.u8.wrap ((BitVec.ofInt 8 (a : Int) ||| BitVec.ofInt 8 (b : Int)).toNat : Int) = _
  have e1 : (BitVec.ofInt 8 (a : Int)).toNat = a := by simp [BitVec.toNat_ofInt]; omega
  have e2 : (BitVec.ofInt 8 (b : Int)).toNat = b := by simp [BitVec.toNat_ofInt]; omega
  rw [BitVec.toNat_or, e1, e2]
  have : a ||| b < 2 ^ 8 := Nat.or_lt_two_pow (by omega) (by omega)
  exact wrap8 (by omega) (by omega)
theorem and8 (a : Nat) (ha : a < 256) : bits .and .u8 (a : Int) 63 = ((a % 64 : Nat) : Int) := by
  show IntKind.u8.wrap ((BitVec.ofInt 8 (a : Int) &&& BitVec.ofInt 8 ((63 : Nat) : Int)).toNat : Int) = _
  have e1 : (BitVec.ofInt 8 (a : Int)).toNat = a := by simp [BitVec.toNat_ofInt]; omega
  have e2 : (BitVec.ofInt 8 ((63 : Nat) : Int)).toNat = 63 := rfl
  rw [BitVec.toNat_and, e1, e2]
  have e : a &&& 63 = a % 64 := Nat.and_two_pow_sub_one_eq_mod a 6
  rw [e]
  exact wrap8 (by omega) (by omega)
theorem or_add (k a i : Nat) (hk : k % 2 ^ i = 0) (ha : a < 2 ^ i) : k ||| a = k + a := by
  obtain ⟨m, rfl⟩ : ∃ m, k = m * 2 ^ i := ⟨k / 2 ^ i, by rw [Nat.div_mul_cancel (Nat.dvd_of_mod_eq_zero hk)]⟩
  rw [Nat.mul_comm]
  exact (Nat.two_pow_add_eq_or_of_lt ha m).symm
/-- 'c | byte(r>>k) & 0x3F' and its like -/
theorem orK (c : Nat) (z : Int) (n : Nat) (hz : z = (n : Int)) (i : Nat) (hc : c % 2 ^ i = 0) (hn : n < 2 ^ i) (hs : c + n < 256) : bits .or .u8 (c : Int) z = ((UInt8.ofNat (c + n)).toNat : Int) := by
  rw [hz, or8 c n (by omega) (by omega), or_add c n i hc hn]
  simp
  omega
theorem byte_and (z : Int) (n : Nat) (hz : z = (n : Int)) : bits .and .u8 (IntKind.u8.wrap z) 63 = ((n % 64 : Nat) : Int) := by
  have h : IntKind.u8.wrap z = ((n % 256 : Nat) : Int) := by rw [hz, ← wrap8_mod]; simp
  rw [h, and8 _ (by omega)]
  congr 1
  omega
theorem lead8 (c : Nat) (ci : Int) (hci : ci = (c : Int)) (i : Nat) (z : Int) (n : Nat) (hz : z = (n : Int)) (hc : c % 2 ^ i = 0) (hn : n < 2 ^ i) (hs : c + n < 256) : bits .or .u8 ci (IntKind.u8.wrap z) = ((UInt8.ofNat (c + n)).toNat : Int) := by
  rw [hci]
  exact orK c _ n (by rw [hz]; exact wrap8 (by omega) (by omega)) i hc hn hs
theorem cont8 (z : Int) (n : Nat) (hz : z = (n : Int)) : bits .or .u8 128 (bits .and .u8 (IntKind.u8.wrap z) 63) = ((UInt8.ofNat (128 + n % 64)).toNat : Int) :=
  orK 128 _ (n % 64) (byte_and z n hz) 6 rfl (by omega) (by omega)
set_option maxHeartbeats 2000000 in
theorem appendNon_any {base : Nat} {v : Value} {l : List UInt8} (n : Nat) (hn : isLetter n = true) (h1 : ¬ n < 128) (own : OwnB w base v l) (hroom : l.length + 4 ≤ 140737488355328) (hbase : base ≤ w.heap.size) :
    CallP Tryz.prog 200 #[v, .int .i32 n] w (fun r w' => OwnB w' base r (l ++ utf8B n) ∧ Upd (obS v) w w' ∧ ∀ b, r.ownBlock = some b → v.ownBlock = some b ∨ w.heap.size ≤ b) := by
  have hl := letter_iff.1 hn
  have hu : IntKind.u32.wrap (n : Int) = (n : Int) := wrap32 (by omega) (by omega)
  by_cases h2 : n < 2048
  · have i2 : (n : Int) ≤ 2047 := by omega
    have hb : utf8B n = [UInt8.ofNat (192 + n / 64), UInt8.ofNat (128 + n % 64)] := by unfold utf8B; rw [if_neg h1, if_pos h2]
    have e0 := lead8 192 192 rfl 5 ((n : Int) / 64) (n / 64) (by omega) rfl (by omega) (by omega)
    have e1 := cont8 (n : Int) n rfl
    rw [hb]
    generalize UInt8.ofNat (192 + n / 64) = c0 at e0 ⊢
    generalize UInt8.ofNat (128 + n % 64) = c1 at e1 ⊢
    obtain ⟨v', w1, hrun, own1, hu1, hob⟩ := pushN_at own [c0, c1] 31 (by simp; omega) hbase
    have hrun' : (Builtin.append_ #[31, 31] 31 #[v, .slice (some ⟨w.heap.size, 0, none⟩) 2 2]).run Tryz.prog (w.alloc (.cells ([c0, c1].map u8V).toArray 5)) = .ok v' w1 := hrun
    simp only [List.map_cons, List.map_nil] at hrun'
    refine call_den (args := [_, _]) Tryz.func200 rfl rfl (by simp [Tryz.ntmps200]) ?_
    simp [go_sem, hu, i2, e0, e1, b2, K_append_ok _ _ _ _ hrun']
    refine ⟨own1, hu1, fun b hb => ?_⟩
    rcases hob with h | h
    · rw [h] at hb; exact Or.inl hb
    · rw [h] at hb; injection hb with hb; right; omega
  have i2 : ¬ (n : Int) ≤ 2047 := by omega
  by_cases h3 : n < 65536
  · have hb : utf8B n = [UInt8.ofNat (224 + n / 4096), UInt8.ofNat (128 + n / 64 % 64), UInt8.ofNat (128 + n % 64)] := by unfold utf8B; rw [if_neg h1, if_neg h2, if_pos h3]
    have e0 := lead8 224 224 rfl 4 ((n : Int) / 4096) (n / 4096) (by omega) rfl (by omega) (by omega)
    have e1 := cont8 ((n : Int) / 64) (n / 64) (by omega)
    have e2 := cont8 (n : Int) n rfl
    rw [hb]
    generalize UInt8.ofNat (224 + n / 4096) = c0 at e0 ⊢
    generalize UInt8.ofNat (128 + n / 64 % 64) = c1 at e1 ⊢
    generalize UInt8.ofNat (128 + n % 64) = c2 at e2 ⊢
    obtain ⟨v', w1, hrun, own1, hu1, hob⟩ := pushN_at own [c0, c1, c2] 31 (by simp; omega) hbase
    have hrun' : (Builtin.append_ #[31, 31] 31 #[v, .slice (some ⟨w.heap.size, 0, none⟩) 3 3]).run Tryz.prog (w.alloc (.cells ([c0, c1, c2].map u8V).toArray 5)) = .ok v' w1 := hrun
    simp only [List.map_cons, List.map_nil] at hrun'
    by_cases h4 : n < 55296
    · have i3 : (n : Int) < 55296 := by omega
      refine call_den (args := [_, _]) Tryz.func200 rfl rfl (by simp [Tryz.ntmps200]) ?_
      simp [go_sem, hu, i2, i3, e0, e1, e2, b3u, K_append_ok _ _ _ _ hrun']
      refine ⟨own1, hu1, fun b hb => ?_⟩
      rcases hob with h | h
      · rw [h] at hb; exact Or.inl hb
      · rw [h] at hb; injection hb with hb; right; omega
    · have i3 : ¬ (n : Int) < 55296 := by omega
      have i4 : 57343 < (n : Int) := by omega
      have i5 : (n : Int) ≤ 65535 := by omega
      refine call_den (args := [_, _]) Tryz.func200 rfl rfl (by simp [Tryz.ntmps200]) ?_
      simp [go_sem, hu, i2, i3, i4, i5, e0, e1, e2, b3u, K_append_ok _ _ _ _ hrun']
      refine ⟨own1, hu1, fun b hb => ?_⟩
      rcases hob with h | h
      · rw [h] at hb; exact Or.inl hb
      · rw [h] at hb; injection hb with hb; right; omega
  · have i3 : ¬ (n : Int) < 55296 := by omega
    have i4 : 57343 < (n : Int) := by omega
    have i5 : ¬ (n : Int) ≤ 65535 := by omega
    have i6 : 65535 < (n : Int) := by omega
    have i7 : (n : Int) ≤ 1114111 := by omega
    have hb : utf8B n = [UInt8.ofNat (240 + n / 262144), UInt8.ofNat (128 + n / 4096 % 64), UInt8.ofNat (128 + n / 64 % 64), UInt8.ofNat (128 + n % 64)] := by unfold utf8B; rw [if_neg h1, if_neg h2, if_neg h3]
    have e0 := lead8 240 240 rfl 3 ((n : Int) / 262144) (n / 262144) (by omega) rfl (by omega) (by omega)
    have e3 := cont8 ((n : Int) / 4096) (n / 4096) (by omega)
    have e1 := cont8 ((n : Int) / 64) (n / 64) (by omega)
    have e2 := cont8 (n : Int) n rfl
    rw [hb]
    generalize UInt8.ofNat (240 + n / 262144) = c0 at e0 ⊢
    generalize UInt8.ofNat (128 + n / 4096 % 64) = c3 at e3 ⊢
    generalize UInt8.ofNat (128 + n / 64 % 64) = c1 at e1 ⊢
    generalize UInt8.ofNat (128 + n % 64) = c2 at e2 ⊢
    obtain ⟨v', w1, hrun, own1, hu1, hob⟩ := pushN_at own [c0, c3, c1, c2] 31 (by simp; omega) hbase
    have hrun' : (Builtin.append_ #[31, 31] 31 #[v, .slice (some ⟨w.heap.size, 0, none⟩) 4 4]).run Tryz.prog (w.alloc (.cells ([c0, c3, c1, c2].map u8V).toArray 5)) = .ok v' w1 := hrun
    simp only [List.map_cons, List.map_nil] at hrun'
    refine call_den (args := [_, _]) Tryz.func200 rfl rfl (by simp [Tryz.ntmps200]) ?_
    simp [go_sem, hu, i2, i3, i4, i5, i6, i7, e0, e1, e2, e3, b4u, K_append_ok _ _ _ _ hrun']
    refine ⟨own1, hu1, fun b hb => ?_⟩
    rcases hob with h | h
    · rw [h] at hb; exact Or.inl hb
    · rw [h] at hb; injection hb with hb; right; omega
set_option maxHeartbeats 2000000 in
theorem appendRune_any {base : Nat} {v : Value} {l : List UInt8} (n : Nat) (hn : isLetter n = true) (own : OwnB w base v l) (hroom : l.length + 4 ≤ 140737488355328) (hbase : base ≤ w.heap.size) :
    CallP Tryz.prog 195 #[v, .int .i32 n] w (fun r w' => OwnB w' base r (l ++ utf8B n) ∧ Upd (obS v) w w' ∧ ∀ b, r.ownBlock = some b → v.ownBlock = some b ∨ w.heap.size ≤ b) := by
  have hl := letter_iff.1 hn
  have hu : IntKind.u32.wrap (n : Int) = (n : Int) := wrap32 (by omega) (by omega)
  by_cases h1 : n < 128
  · have i1 : (n : Int) ≤ 127 := by omega
    have hb : utf8B n = [UInt8.ofNat n] := by unfold utf8B; rw [if_pos h1]
    rw [hb]
    generalize hc0 : UInt8.ofNat n = c0
    have e0 : IntKind.u8.wrap (n : Int) = (c0.toNat : Int) := by rw [← hc0]; exact u8_wrap n
    obtain ⟨v', w1, hrun, own1, hu1, hob⟩ := pushN_at own [c0] 31 (by simp; omega) hbase
    have hrun' : (Builtin.append_ #[31, 31] 31 #[v, .slice (some ⟨w.heap.size, 0, none⟩) 1 1]).run Tryz.prog (w.alloc (.cells #[u8V c0] 5)) = .ok v' w1 := hrun
    refine call_den (args := [_, _]) Tryz.func195 rfl rfl (by simp [Tryz.ntmps195]) ?_
    simp [go_sem, hu, i1, e0, b1u, K_append_ok _ _ _ _ hrun']
    refine ⟨own1, hu1, fun b hb => ?_⟩
    rcases hob with h | h
    · rw [h] at hb; exact Or.inl hb
    · rw [h] at hb; injection hb with hb; right; omega
  · have i1 : ¬ (n : Int) ≤ 127 := by omega
    refine call_den (args := [_, _]) Tryz.func195 rfl rfl (by simp [Tryz.ntmps195]) ?_
    simp [go_sem, hu, i1]
    refine CallP.mono (appendNon_any n hn h1 own hroom hbase) ?_
    rintro r w1 h
    simp [go_sem]
    exact h
end Go.Proofs.YtinfdomlpbikaaaGreatDoor
namespace Go.Proofs.YtinfdomlpbikaaaGreatDoor
open Go.Eng Go.Lib
set_option linter.unusedSimpArgs false
set_option linter.unusedVariables false
set_option maxRecDepth 100000
variable {w : World}
def strOf (l : List UInt8) : ByteArray := ⟨l.toArray⟩
theorem strOf_data (l : List UInt8) : (strOf l).data.toList = l := by simp [strOf]
theorem strOf_str (s : ByteArray) : strOf s.data.toList = s := by cases s; simp [strOf]
theorem str_conv {v : Value} {l : List UInt8} (hb : BytesAt w v l) : (convert 31 9 v).run Tryz.prog w = .ok (.string (strOf l)) w := by
  rcases hb.1.2 with ⟨p, cap, rfl, h0⟩ | ⟨b, off, cap, c, te, f, rfl, hbb, hle, htake⟩
  · have : l = [] := List.eq_nil_of_length_eq_zero h0
    subst this
    rw [run_convert_bytes_string w 31 9 _ _ 0 cap Tryz.underlying31 Tryz.underlying5 Tryz.underlying9]
    cases p <;> simp [Conv.bytesToString, loadCells]
    all_goals rfl
  · refine run_convert_bytes_back w 31 9 _ ⟨b, off, none⟩ cap l Tryz.underlying31 Tryz.underlying5 Tryz.underlying9 ?_
    intro j hj
    exact row_cells hb.1 j _ (by rw [List.getElem?_map, List.getElem?_eq_getElem hj]; rfl)
theorem getF_cons (a b : UInt8) (r : List UInt8) : getF (a :: b :: r) = if 55296 ≤ a.toNat + 256 * b.toNat ∧ a.toNat + 256 * b.toNat < 56320 then
      match r with
      | c :: d :: r' => if 220 ≤ d.toNat ∧ d.toNat ≤ 223 then (getF r').map fun ls => (65536 + 1024 * (a.toNat + 256 * b.toNat - 55296) + (c.toNat + 256 * d.toNat) - 56320) :: ls else none
      | _ => none
    else if isLetter (a.toNat + 256 * b.toNat) then (getF r).map fun ls => (a.toNat + 256 * b.toNat) :: ls else none := by
  first | (rw [getF.eq_def]; done) | (rw [getF.eq_def]; rfl)
theorem drop_two {l : List UInt8} {i : Nat} (h : i + 1 < l.length) : ∃ a b, l[i]? = some a ∧ l[i + 1]? = some b ∧ l.drop i = a :: b :: l.drop (i + 2) := by
  refine ⟨l[i], l[i + 1], List.getElem?_eq_getElem (by omega), List.getElem?_eq_getElem h, ?_⟩
  rw [List.drop_eq_getElem_cons (by omega), List.drop_eq_getElem_cons h]
theorem utf8B_len (a : Nat) : (utf8B a).length ≤ 4 := by
  unfold utf8B
  by_cases h1 : a < 128
  · rw [if_pos h1]; simp
  · by_cases h2 : a < 2048
    · rw [if_neg h1, if_pos h2]; simp
    · by_cases h3 : a < 65536
      · rw [if_neg h1, if_neg h2, if_pos h3]; simp
      · rw [if_neg h1, if_neg h2, if_neg h3]; simp
theorem u8f_len (l : List Nat) : (l.flatMap utf8B).length ≤ 4 * l.length := by
  induction l with
  | nil => exact Nat.le_refl _
  | cons a l ih =>
    rw [List.flatMap_cons, List.length_append, List.length_cons]
    have := utf8B_len a
    omega
end Go.Proofs.YtinfdomlpbikaaaGreatDoor
namespace Go.Proofs.YtinfdomlpbikaaaGreatDoor
open Go.Eng Go.Lib
set_option linter.unusedSimpArgs false
set_option linter.unusedVariables false
set_option maxRecDepth 100000
variable {w : World}
/-- what is still to come, behind a first unit of two -/
def pendF (h : Nat) : List UInt8 → Option (List Nat)
  | c :: d :: r' => if 220 ≤ d.toNat ∧ d.toNat ≤ 223 then (getF r').map fun ls => (65536 + 1024 * (h - 55296) + (c.toNat + 256 * d.toNat) - 56320) :: ls else none
  | _ => none
theorem pendF_cons (h : Nat) (c d : UInt8) (r : List UInt8) : pendF h (c :: d :: r) = if 220 ≤ d.toNat ∧ d.toNat ≤ 223 then (getF r).map fun ls => (65536 + 1024 * (h - 55296) + (c.toNat + 256 * d.toNat) - 56320) :: ls else none := rfl
theorem getF_cons' (a b : UInt8) (r : List UInt8) : getF (a :: b :: r) = if 55296 ≤ a.toNat + 256 * b.toNat ∧ a.toNat + 256 * b.toNat < 56320 then pendF (a.toNat + 256 * b.toNat) r
    else if isLetter (a.toNat + 256 * b.toNat) then (getF r).map fun ls => (a.toNat + 256 * b.toNat) :: ls else none := by
  rw [getF_cons]
  by_cases h : 55296 ≤ a.toNat + 256 * b.toNat ∧ a.toNat + 256 * b.toNat < 56320
  · rw [if_pos h, if_pos h]
    unfold pendF
    rfl
  · rw [if_neg h, if_neg h]
def hiV : Option Nat → Int
  | none => -1
  | some h => h
def restF (hi : Option Nat) (r : List UInt8) : Option (List Nat) := match hi with | none => getF r | some h => pendF h r
def PGetI (l : List UInt8) (s : Value) (w0 : World) (m : Nat) (ρ : Env) (w : World) : Prop :=
  ∃ (i : Nat) (v : Value) (pre : List Nat) (hi : Option Nat), m = l.length - i ∧ i ≤ l.length ∧ ρ 0 = s ∧ ρ 4 = v ∧ ρ 5 = .int .i32 (hiV hi) ∧ ρ 6 = .int .i64 (i : Nat) ∧ pre.length ≤ i ∧ (∀ h, hi = some h → 55296 ≤ h ∧ h < 56320) ∧ getF l = (restF hi (l.drop i)).map (fun ls => pre ++ ls) ∧ OwnB w w0.heap.size v (pre.flatMap utf8B) ∧ Upd noB w0 w
theorem num2 {l : List UInt8} {i : Nat} {a b : UInt8} {r : List UInt8} (h : l.drop i = a :: b :: r) : numB (cutL l i 2) = a.toNat + 256 * b.toNat := by
  unfold cutL
  rw [h]
  simp [numB]
theorem noneR (hi : Option Nat) (x : UInt8) : restF hi [x] = none := by cases hi <;> rfl
set_option maxHeartbeats 4000000 in
theorem utfGet_any {sv : Value} {l : List UInt8} (hb : BytesAt w sv l) (hl : l.length ≤ 1099511627776) : CallP Tryz.prog 183 #[sv] w (fun r w' => Upd noB w w' ∧
    match txtG l with
    | some t => r = .tuple #[.string (strOf t), .int .i64 0]
    | none => r = .tuple #[.string ⟨#[]⟩, .int .i64 5]) := by
  obtain ⟨p, cap, rfl, hcap⟩ := hb.len
  unfold txtG
  refine call_den (args := [_]) Tryz.func183 rfl rfl (by simp [Tryz.ntmps183]) ?_
  simp [go_sem]
  refine den_loop (PGetI l (.slice p l.length cap) w) l.length ?_ ?_
  · exact ⟨0, _, [], none, rfl, Nat.zero_le _, by simp [go_sem], by simp [go_sem], by simp [go_sem, hiV], by simp [go_sem], Nat.zero_le _, by simp, by simp [restF], World.ownsX_nil _ _ _ _, Upd.refl _ _⟩
  · rintro m ρ w2 ⟨i, v, pre, hi, rfl, hil, g0, g4, g5, g6, hpre, hhi, hget, own, hu⟩
    by_cases hlt : i < l.length
    · have hlt' : (i : Int) < l.length := by omega
      simp [go_sem, g0, g4, g5, g6, hlt']
      by_cases hsh : l.length < i + 2
      · refine CallP.mono (endsGet_out (hb.keep0 hu) (by omega) i 2 hsh (by decide) (by omega)) ?_
        rintro _ w3 ⟨rfl, rfl⟩
        have h1 : l.drop i = [l[i]] := by
          rw [List.drop_eq_getElem_cons hlt, List.drop_of_length_le (by omega)]
        rw [h1, noneR] at hget
        have he : ¬ l.length < i := by omega
        simp at hget
        simp [go_sem, he, hget]
        exact hu
      · refine CallP.mono (endsGet_any (hb.keep0 hu) (by omega) i 2 (by omega) (by decide)) ?_
        rintro _ w3 ⟨rfl, rfl⟩
        obtain ⟨a, b, ha, hbb, hdr⟩ := drop_two (l := l) (i := i) (by omega)
        rw [num2 hdr]
        have ya := a.toNat_lt
        have yb := b.toNat_lt
        rw [hdr] at hget
        obtain ⟨n, hn⟩ : ∃ n, n = a.toNat + 256 * b.toNat := ⟨_, rfl⟩
        rw [← hn]
        have hwn : IntKind.i32.wrap (n : Int) = (n : Int) := wrap32i (by omega) (by omega)
        obtain ⟨i4, hi4⟩ : ∃ i4, i4 = i + 2 := ⟨_, rfl⟩
        have hwi4 : IntKind.i64.wrap ((i : Int) + 2) = (i4 : Int) := by rw [wrap64_id (by omega) (by omega)]; omega
        rw [← hi4] at hget
        cases hi with
        | none =>
          have hg5 : ρ 5 = .int .i32 (-1) := g5
          have hget' : getF l = (getF (a :: b :: l.drop i4)).map (fun ls => pre ++ ls) := hget
          rw [getF_cons', ← hn] at hget'
          by_cases c1 : 55296 ≤ n ∧ n < 56320
          · rw [if_pos c1] at hget'
            have j1 : ¬ 56320 ≤ (n : Int) := by omega
            have j2 : 55296 ≤ (n : Int) := by omega
            have j3 : (n : Int) < 56320 := by omega
            simp [go_sem, g0, g4, hg5, g6, hwn, j1, j2, j3, hwi4]
            exact ⟨l.length - i4, by omega, i4, v, pre, some n, rfl, by omega, by simp [go_sem, g0], by simp [go_sem, g4], by simp [go_sem, hiV], by simp [go_sem], by omega, (fun h hh => by injection hh with hh; omega), hget', own, hu⟩
          · rw [if_neg c1] at hget'
            by_cases hlet : isLetter n = true
            · rw [if_pos hlet] at hget'
              have hnl := letter_iff.1 hlet
              have hlv := u8f_len pre
              by_cases j1 : 56320 ≤ (n : Int)
              · have j4 : ¬ (n : Int) < 57344 := by omega
                have j2 : 55296 ≤ (n : Int) := by omega
                have j3 : ¬ (n : Int) < 56320 := by omega
                simp [go_sem, g0, g4, hg5, g6, hwn, j1, j2, j3, j4]
                refine CallP.mono (appendRune_any n hlet own (by omega) hu.size) ?_
                rintro v' w4 ⟨own4, hu4, _⟩
                have huw : Upd noB w w4 := hu.trans' hu4 (fun b hb hlt => by have := (own.lt b hb).1; omega)
                simp [go_sem, g0, g4, hg5, g6, hwi4]
                refine ⟨l.length - i4, by omega, i4, v', pre ++ [n], none, rfl, by omega, by simp [go_sem, g0], by simp [go_sem], by simp [go_sem, hg5, hiV], by simp [go_sem], by simp; omega, (fun h hh => by cases hh), ?_, ?_, huw⟩
                · rw [hget']; simp only [restF]; cases getF (l.drop i4) <;> simp
                · rw [List.flatMap_append]; simpa using own4
              · have j2 : ¬ 55296 ≤ (n : Int) := by omega
                simp [go_sem, g0, g4, hg5, g6, hwn, j1, j2]
                refine CallP.mono (appendRune_any n hlet own (by omega) hu.size) ?_
                rintro v' w4 ⟨own4, hu4, _⟩
                have huw : Upd noB w w4 := hu.trans' hu4 (fun b hb hlt => by have := (own.lt b hb).1; omega)
                simp [go_sem, g0, g4, hg5, g6, hwi4]
                refine ⟨l.length - i4, by omega, i4, v', pre ++ [n], none, rfl, by omega, by simp [go_sem, g0], by simp [go_sem], by simp [go_sem, hg5, hiV], by simp [go_sem], by simp; omega, (fun h hh => by cases hh), ?_, ?_, huw⟩
                · rw [hget']; simp only [restF]; cases getF (l.drop i4) <;> simp
                · rw [List.flatMap_append]; simpa using own4
            · rw [if_neg hlet] at hget'
              simp at hget'
              have hnl : ¬ (n ≤ 1114111 ∧ (n < 55296 ∨ 57343 < n)) := fun h => hlet (letter_iff.2 h)
              have j1 : 56320 ≤ (n : Int) := by omega
              have j4 : (n : Int) < 57344 := by omega
              simp [go_sem, g0, g4, hg5, g6, hwn, j1, j4, hget']
              exact hu
        | some h =>
          have hg5 : ρ 5 = .int .i32 (h : Int) := g5
          have hh := hhi h rfl
          have h0 : 0 ≤ (h : Int) := by omega
          have hget' : getF l = (pendF h (a :: b :: l.drop i4)).map (fun ls => pre ++ ls) := hget
          rw [pendF_cons, ← hn] at hget'
          by_cases hlo : 220 ≤ b.toNat ∧ b.toNat ≤ 223
          · rw [if_pos hlo] at hget'
            have j1 : 56320 ≤ (n : Int) := by omega
            have j4 : (n : Int) < 57344 := by omega
            obtain ⟨m1, hm1⟩ : ∃ m1, m1 = h - 55296 := ⟨_, rfl⟩
            obtain ⟨nl, hnl⟩ : ∃ nl, nl = n - 56320 := ⟨_, rfl⟩
            obtain ⟨nn, hnn⟩ : ∃ nn, nn = 65536 + 1024 * (h - 55296) + n - 56320 := ⟨_, rfl⟩
            rw [← hnn] at hget'
            have hA : IntKind.i32.wrap ((h : Int) - 55296) = (m1 : Int) := by rw [wrap32i (by omega) (by omega)]; omega
            have hB : IntKind.i32.wrap ((m1 : Int) * 1024) = (m1 : Int) * 1024 := wrap32i (by omega) (by omega)
            have hC : IntKind.i32.wrap (65536 + (m1 : Int) * 1024) = 65536 + (m1 : Int) * 1024 := wrap32i (by omega) (by omega)
            have hD : IntKind.i32.wrap ((n : Int) - 56320) = (nl : Int) := by rw [wrap32i (by omega) (by omega)]; omega
            have hE : IntKind.i32.wrap (65536 + (m1 : Int) * 1024 + (nl : Int)) = (nn : Int) := by rw [wrap32i (by omega) (by omega)]; omega
            have hlv := u8f_len pre
            simp [go_sem, g0, g4, hg5, g6, hwn, j1, j4, h0, hA, hB, hC, hD, hE]
            clear hn
            generalize hgn : n = nold at *
            obtain ⟨n, hn⟩ : ∃ n, n = nn := ⟨_, rfl⟩
            rw [← hn] at hget' ⊢
            have hlet : isLetter n = true := by rw [letter_iff]; omega
            refine CallP.mono (appendRune_any n hlet own (by omega) hu.size) ?_
            rintro v' w4 ⟨own4, hu4, _⟩
            have huw : Upd noB w w4 := hu.trans' hu4 (fun b hb hlt => by have := (own.lt b hb).1; omega)
            simp [go_sem, g0, g4, hg5, g6, hwi4]
            refine ⟨l.length - i4, by omega, i4, v', pre ++ [n], none, rfl, by omega, by simp [go_sem, g0], by simp [go_sem], by simp [go_sem, hg5, hiV], by simp [go_sem], by simp; omega, (fun h hh => by cases hh), ?_, ?_, huw⟩
            · rw [hget']; simp only [restF]; cases getF (l.drop i4) <;> simp
            · rw [List.flatMap_append]; simpa using own4
          · rw [if_neg hlo] at hget'
            simp at hget'
            by_cases j1 : 56320 ≤ (n : Int)
            · have j4 : ¬ (n : Int) < 57344 := by omega
              simp [go_sem, g0, g4, hg5, g6, hwn, j1, j4, hget', h0]
              exact hu
            · simp [go_sem, g0, g4, hg5, g6, hwn, j1, hget', h0]
              exact hu
    · have he : i = l.length := by omega
      subst he
      have hlt' : ¬ (l.length : Int) < l.length := by omega
      rw [List.drop_length] at hget
      cases hi with
      | none =>
        have hg5 : ρ 5 = .int .i32 (-1) := g5
        have hget' : getF l = some pre := by rw [hget]; simp [restF, getF]
        have hconv := str_conv own.at
        simp [go_sem, g0, g4, hg5, g6, hlt', hconv, hget']
        exact hu
      | some h =>
        have hg5 : ρ 5 = .int .i32 (h : Int) := g5
        have hget' : getF l = none := by rw [hget]; rfl
        have h0 : 0 ≤ (h : Int) := by omega
        simp [go_sem, g0, g4, hg5, g6, hlt', hget', h0]
        exact hu
end Go.Proofs.YtinfdomlpbikaaaGreatDoor
namespace Go.Proofs.YtinfdomlpbikaaaGreatDoor
open Go.Eng Go.Lib
set_option linter.unusedSimpArgs false
set_option linter.unusedVariables false
set_option maxRecDepth 100000
variable {w : World}
/-- bytes, of the call's own; or an error -/
def PutR (w : World) (base : Nat) (r : Value) : Except Int (List UInt8) → Prop
  | .ok b => ∃ v, r = .tuple #[v, .int .i64 0] ∧ OwnB w base v b
  | .error e => r = .tuple #[.slice none 0 0, .int .i64 e]
def rowB (b : List UInt8) : Except Int (List UInt8) := if 65535 < b.length then .error 3 else .ok (leB b.length 2 ++ b)
def textPut (s : List UInt8) : Except Int (List UInt8) := match txtB s with
  | none => .error 5
  | some b => if 512 < b.length then .error 3 else .ok (leB b.length 2 ++ b)
theorem nil_own (w : World) (base : Nat) : OwnB w base (.slice none 0 0) [] := World.ownsX_nil _ _ _ _
theorem putRow_any {s : Value} {l : List UInt8} (hb : BytesAt w s l) (hl : l.length ≤ 140737488355328) : CallP Tryz.prog 169 #[s] w (fun r w' => Upd noB w w' ∧ PutR w' w.heap.size r (rowB l)) := by
  obtain ⟨p, cap, rfl, hcap⟩ := hb.len
  unfold rowB
  by_cases h : 65535 < l.length
  · have h' : 65535 < (l.length : Int) := by omega
    refine call_den (args := [_]) Tryz.func169 rfl rfl (by simp [Tryz.ntmps169]) ?_
    simp [go_sem, h, h', PutR]
    exact Upd.refl _ _
  · have h' : ¬ 65535 < (l.length : Int) := by omega
    have hw : IntKind.u64.wrap (l.length : Int) = l.length := wrap64 (by omega) (by omega)
    refine call_den (args := [_]) Tryz.func169 rfl rfl (by simp [Tryz.ntmps169]) ?_
    simp [go_sem, h, h', hw, PutR]
    refine CallP.mono (endsPut_any l.length 2 (by decide) (by omega) w) ?_
    rintro _ w1 ⟨v, rfl, u1, own⟩
    simp [go_sem]
    have hb2 := hb.keep0 u1
    obtain ⟨v', w', hrun, own2, hg⟩ := OwnB.append own hb2 31 (by rw [leB_len]; omega) u1.size
    have hu := upd_append own u1 (Nat.le_refl _) hg
    simp [go_sem, K_append_ok _ _ _ _ hrun]
    exact ⟨hu, own2⟩
theorem txtB_len {s b : List UInt8} (h : txtB s = some b) : b.length ≤ 4 * s.length := by
  unfold txtB at h
  split at h
  · injection h with h
    rename_i hv
    have h1 := letsL_len s
    rw [lets_of_valid hv] at h1
    have h2 := unitB_flat_len (codesL s)
    rw [h] at h2
    simp only at h1
    omega
  · cases h
theorem putText_any (s : ByteArray) (hs : s.size ≤ 1099511627776) (hT : Tabs w) : CallP Tryz.prog 149 #[.string s] w (fun r w' => Upd noB w w' ∧ PutR w' w.heap.size r (textPut s.data.toList)) := by
  refine call_den (args := [_]) Tryz.func149 rfl rfl (by simp [Tryz.ntmps149]) ?_
  simp [go_sem]
  refine CallP.mono (utfPut_any s hs hT) ?_
  rintro r w1 ⟨u1, hres⟩
  unfold textPut
  cases ht : txtB s.data.toList with
  | none =>
    rw [ht] at hres
    simp only at hres
    subst hres
    simp [go_sem, PutR]
    exact u1
  | some b =>
    rw [ht] at hres
    obtain ⟨v, rfl, own⟩ := hres
    have hbl := txtB_len ht
    rw [str_len] at hbl
    obtain ⟨p, cap, rfl, _⟩ := own.at.len
    by_cases h5 : 512 < b.length
    · have h5' : 512 < (b.length : Int) := by omega
      simp [go_sem, PutR, h5, h5']
      exact u1
    · have h5' : ¬ 512 < (b.length : Int) := by omega
      simp [go_sem, PutR, h5, h5']
      refine CallP.mono (putRow_any own.at (by omega)) ?_
      rintro r w2 ⟨u2, hres⟩
      have e : rowB b = .ok (leB b.length 2 ++ b) := by unfold rowB; rw [if_neg (by omega)]
      rw [e] at hres
      obtain ⟨v2, rfl, own2⟩ := hres
      simp [go_sem]
      exact ⟨u1.trans u2, own_base own2 u1.size⟩
end Go.Proofs.YtinfdomlpbikaaaGreatDoor
namespace Go.Proofs.YtinfdomlpbikaaaGreatDoor
open Go.Eng Go.Lib
set_option linter.unusedSimpArgs false
set_option linter.unusedVariables false
set_option maxRecDepth 100000
variable {w : World}
/-- so many bytes from a place: of the call's own, or that there are too few -/
theorem part_any {s : Value} {l : List UInt8} (hb : BytesAt w s l) (hl : l.length ≤ 140737488355328) (a k : Nat) (h : a + k ≤ l.length) :
    CallP Tryz.prog 171 #[s, .int .i64 a, .int .i64 k] w (fun r w' => ∃ v, r = .tuple #[v, .int .i64 0] ∧ Upd noB w w' ∧ OwnB w' w.heap.size v (cutL l a k)) := by
  refine call_den (args := [_, _, _]) Tryz.func171 rfl rfl (by simp [Tryz.ntmps171]) ?_
  simp [go_sem]
  refine CallP.mono (cut_any hb (by omega) a k h) ?_
  rintro r w1 ⟨v, rfl, rfl, hv⟩
  have hcl := cutL_len l a k h
  obtain ⟨v', w', hrun, own, hg⟩ := OwnB.append (nil_own w1 w1.heap.size) hv 31 (by rw [hcl]; simp; omega) (Nat.le_refl _)
  simp [go_sem, K_append_ok _ _ _ _ hrun]
  exact ⟨upd_append (nil_own w1 w1.heap.size) (Upd.refl noB w1) (Nat.le_refl _) hg, own⟩
theorem part_out {s : Value} {l : List UInt8} (hb : BytesAt w s l) (hl : l.length ≤ 140737488355328) (a k : Nat) (h : l.length < a + k) (hk : k ≤ 9223372036854775807) (ha : a ≤ l.length) :
    CallP Tryz.prog 171 #[s, .int .i64 a, .int .i64 k] w (fun r w' => ∃ v, r = .tuple #[v, .int .i64 4] ∧ Upd noB w w') := by
  refine call_den (args := [_, _, _]) Tryz.func171 rfl rfl (by simp [Tryz.ntmps171]) ?_
  simp [go_sem]
  refine CallP.mono (cut_out hb (by omega) a k h hk (by omega)) ?_
  rintro r w1 ⟨rfl, rfl⟩
  have hlt : ¬ l.length < a := by omega
  obtain ⟨v', w', hrun, own, hg⟩ := OwnB.append (nil_own w1 w1.heap.size) (bytesAt_nil w1 none 0) 31 (by simp) (Nat.le_refl _)
  simp [go_sem, hlt, K_append_ok _ _ _ _ hrun]
  exact upd_append (nil_own w1 w1.heap.size) (Upd.refl noB w1) (Nat.le_refl _) hg
theorem b0u (w : World) (k : Value → World → Prop) : K_buildSlice Tryz.prog 31 0 #[] w k = k (.slice (some ⟨w.heap.size, 0, none⟩) 0 0) (w.alloc (.cells #[] 5)) := by
  refine K_buildSlice_ok _ _ _ _ ?_
  simp [Instr.buildSlice, run_underlying Tryz.underlying31, Tryz.sizeOf5, Instr.fill, newRow, Array.range]
theorem clone_any {s : Value} {l : List UInt8} (hb : BytesAt w s l) (hl : l.length ≤ 140737488355328) : CallP Tryz.prog 165 #[s] w (fun r w' => Upd noB w w' ∧ OwnB w' w.heap.size r l) := by
  obtain ⟨p, cap, rfl, hcap⟩ := hb.len
  cases p with
  | none =>
    have h0 : l = [] := by
      rcases hb.1.2 with ⟨q, c, hv, h0⟩ | ⟨b, off, c, cc, te, f, hv, _⟩
      · exact List.eq_nil_of_length_eq_zero h0
      · cases hv
    subst h0
    have he := fun w => run_eql_slice_nil (P := Tryz.prog) w 31 _ none 0 cap Tryz.underlying31
    refine call_den (args := [_]) Tryz.func165 rfl rfl (by simp [Tryz.ntmps165]) ?_
    simp [go_sem, he]
    exact ⟨Upd.refl _ _, nil_own _ _⟩
  | some a =>
    have he := fun w => run_eql_slice_nil (P := Tryz.prog) w 31 _ (some a) l.length cap Tryz.underlying31
    refine call_den (args := [_]) Tryz.func165 rfl rfl (by simp [Tryz.ntmps165]) ?_
    have ua : Upd noB w (w.alloc (.cells #[] 5)) := (Upd.refl _ _).alloc _
    have own0 : OwnB (w.alloc (.cells #[] 5)) w.heap.size (.slice (some ⟨w.heap.size, 0, none⟩) 0 0) [] := ⟨⟨rfl, Or.inr ⟨w.heap.size, 0, #[], rfl, Nat.le_refl _, by rw [heap_alloc, if_pos rfl], Nat.le_refl _, Nat.zero_le _, rfl, rfl⟩⟩, full_cells (cur := #[]) (f := (0, 0)) (by rw [heap_alloc, if_pos rfl]) (fun _ u h => by cases h)⟩
    obtain ⟨v', w', hrun, own, hg⟩ := OwnB.append own0 (hb.keep0 ua) 31 (by simpa using hl) (by simp)
    simp [go_sem, he, b0u, K_append_ok _ _ _ _ hrun]
    exact ⟨upd_append own0 ua (Nat.le_refl _) hg, own⟩
/-- a row at a place, and the place behind it -/
def rowGet (l : List UInt8) (a most : Nat) : Except Int (List UInt8 × Nat) :=
  if l.length < a + 2 then .error 4
  else if most < numB (cutL l a 2) then .error 3
  else if l.length < a + 2 + numB (cutL l a 2) then .error 4
  else .ok (cutL l (a + 2) (numB (cutL l a 2)), a + 2 + numB (cutL l a 2))
def textGet (l : List UInt8) (a : Nat) : Except Int (List UInt8 × Nat) := match rowGet l a 512 with
  | .error e => .error e
  | .ok (row, next) => match txtG row with
    | none => .error 5
    | some t => .ok (t, next)
def RowR (w : World) (base : Nat) (r : Value) : Except Int (List UInt8 × Nat) → Prop
  | .ok (b, n) => ∃ v, r = .tuple #[v, .int .i64 n, .int .i64 0] ∧ OwnB w base v b
  | .error e => r = .tuple #[.slice none 0 0, .int .i64 0, .int .i64 e]
def TextR (r : Value) : Except Int (List UInt8 × Nat) → Prop
  | .ok (t, n) => r = .tuple #[.string (strOf t), .int .i64 n, .int .i64 0]
  | .error e => r = .tuple #[.string ⟨#[]⟩, .int .i64 0, .int .i64 e]
theorem num2_lt (l : List UInt8) (a : Nat) : numB (cutL l a 2) < 65536 := by
  have h1 := numB_lt (cutL l a 2)
  have h2 : 256 ^ (cutL l a 2).length ≤ 256 ^ 2 := Nat.pow_le_pow_right (by decide) (by simp [cutL]; omega)
  exact Nat.lt_of_lt_of_le h1 h2
set_option maxHeartbeats 1000000 in
theorem getRow_any {s : Value} {l : List UInt8} (hb : BytesAt w s l) (hl : l.length ≤ 1099511627776) (a most : Nat) (ha : a ≤ l.length) (hm : most ≤ 65535) :
    CallP Tryz.prog 182 #[s, .int .i64 a, .int .i64 most] w (fun r w' => Upd noB w w' ∧ RowR w' w.heap.size r (rowGet l a most)) := by
  have hnl := num2_lt l a
  obtain ⟨p, cap, rfl, hcap⟩ := hb.len
  unfold rowGet
  refine call_den (args := [_, _, _]) Tryz.func182 rfl rfl (by simp [Tryz.ntmps182]) ?_
  simp [go_sem]
  by_cases h1 : l.length < a + 2
  · refine CallP.mono (endsGet_out hb (by omega) a 2 h1 (by decide) (by omega)) ?_
    rintro _ w1 ⟨rfl, rfl⟩
    have h2 : ¬ l.length < a := by omega
    rw [if_pos h1]
    simp only [h2, if_false]
    by_cases h3 : a = l.length
    · have h3' : ((a : Int) == (l.length : Int)) = true := by simp [h3]
      simp [go_sem, h3, RowR]
      exact Upd.refl _ _
    · have h3' : ¬ (a : Int) = l.length := by omega
      simp [go_sem, h3, h3', RowR]
      exact Upd.refl _ _
  · rw [if_neg h1]
    refine CallP.mono (endsGet_any hb (by omega) a 2 (by omega) (by decide)) ?_
    rintro _ w1 ⟨rfl, rfl⟩
    generalize numB (cutL l a 2) = n at hnl ⊢
    have hwn : IntKind.i64.wrap (n : Int) = n := wrap64_nat n (by omega)
    by_cases h2 : most < n
    · have h2' : (most : Int) < n := by omega
      rw [if_pos h2]
      simp [go_sem, hwn, h2', RowR]
      exact Upd.refl _ _
    · have h2' : ¬ (most : Int) < n := by omega
      rw [if_neg h2]
      obtain ⟨a2, ha2⟩ : ∃ a2, a2 = a + 2 := ⟨_, rfl⟩
      have hwa : IntKind.i64.wrap ((a : Int) + 2) = (a2 : Int) := by rw [wrap64_id (by omega) (by omega)]; omega
      rw [← ha2]
      simp [go_sem, hwn, h2', hwa]
      by_cases h3 : l.length < a2 + n
      · rw [if_pos h3]
        refine CallP.mono (part_out hb (by omega) a2 n h3 (by omega) (by omega)) ?_
        rintro _ w2 ⟨v, rfl, u2⟩
        simp [go_sem, RowR]
        exact u2
      · rw [if_neg h3]
        refine CallP.mono (part_any hb (by omega) a2 n (by omega)) ?_
        rintro _ w2 ⟨v, rfl, u2, own2⟩
        have hcl := cutL_len l a2 n (by omega)
        obtain ⟨nx, hnx⟩ : ∃ nx, nx = a2 + n := ⟨_, rfl⟩
        have hwx : IntKind.i64.wrap ((a2 : Int) + n) = (nx : Int) := by rw [wrap64_id (by omega) (by omega)]; omega
        rw [← hnx]
        simp [go_sem]
        refine CallP.mono (clone_any own2.at (by omega)) ?_
        rintro v3 w3 ⟨u3, own3⟩
        simp [go_sem, hwn, hwa, hwx, RowR]
        exact ⟨u2.trans u3, own_base own3 u2.size⟩
theorem rowGet_err {l : List UInt8} {a m : Nat} {e : Int} (h : rowGet l a m = .error e) : ¬ e = 0 := by
  unfold rowGet at h
  repeat' split at h
  all_goals first | (injection h with h; omega) | cases h
theorem rowGet_len {l row : List UInt8} {a m n : Nat} (h : rowGet l a m = .ok (row, n)) : row.length ≤ 65535 ∧ row.length ≤ m ∧ n ≤ l.length ∧ a ≤ n := by
  unfold rowGet at h
  have hlt := num2_lt l a
  repeat' split at h
  all_goals first | (injection h with h; injection h with h1 h2; subst h1; subst h2; rw [cutL_len _ _ _ (by omega)]; omega) | cases h
theorem getText_any {s : Value} {l : List UInt8} (hb : BytesAt w s l) (hl : l.length ≤ 1099511627776) (a : Nat) (ha : a ≤ l.length) :
    CallP Tryz.prog 163 #[s, .int .i64 a] w (fun r w' => Upd noB w w' ∧ TextR r (textGet l a)) := by
  refine call_den (args := [_, _]) Tryz.func163 rfl rfl (by simp [Tryz.ntmps163]) ?_
  simp [go_sem]
  refine CallP.mono (getRow_any hb hl a 512 ha (by omega)) ?_
  rintro r w1 ⟨u1, hres⟩
  unfold textGet
  cases ht : rowGet l a 512 with
  | error e =>
    rw [ht] at hres
    simp only [RowR] at hres
    subst hres
    have he := rowGet_err ht
    simp [go_sem, TextR, he]
    exact u1
  | ok x =>
    obtain ⟨row, nx⟩ := x
    rw [ht] at hres
    obtain ⟨v, rfl, own⟩ := hres
    simp [go_sem]
    refine CallP.mono (utfGet_any own.at (by have := rowGet_len ht; omega)) ?_
    rintro r w2 ⟨u2, hres⟩
    have hu := u1.trans u2
    cases hg : txtG row with
    | none =>
      rw [hg] at hres
      simp only at hres
      subst hres
      simp [go_sem, TextR]
      exact hu
    | some t =>
      rw [hg] at hres
      simp only at hres
      subst hres
      simp [go_sem, TextR]
      exact hu
end Go.Proofs.YtinfdomlpbikaaaGreatDoor
