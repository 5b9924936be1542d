/-
  Messages as bytes: what is put is got, what is got is put. No program in sight.
  Readers: a block with bytes, a place and an error; what takes a number off.
  Readers: small numbers, truths, ends, bytes, texts.
  Readers: bytes and texts.
  Readers: counted bytes; bytes of a set length.
  Messages of nothing but a head: what the program makes of them.
  What is asked, got: the document's commands of files.
-/
import Derived.Test.YtinfdomlpbikaaaGreatDoorFre3
namespace Go.Proofs.YtinfdomlpbikaaaGreatDoor
open Go Go.Eng
set_option linter.unusedSimpArgs false
set_option linter.unusedVariables false
--BEGIN
/-! ### heads -/
def headGetS (l : List UInt8) : Except Int HeadV := if l.length < 64 then .error 4 else if badH l 0 then .error 5 else .ok (getH l 0)
theorem cat_drop {l a t : List UInt8} {n k m : Nat} (h : l.drop n = a ++ t) (ha : a.length = k) (hm : m = n + k) : l.drop m = t := by
  rw [hm, ← List.drop_drop, h, List.drop_left' ha]
theorem num_at {l t : List UInt8} {n k : Nat} {x : Int} (h : l.drop n = leB x.toNat k ++ t) (h0 : 0 ≤ x) (h1 : x < ((256 ^ k : Nat) : Int)) : (numAt l n k : Int) = x := by
  unfold numAt cutL
  rw [h, List.take_left' (leB_len _ _), numB_leB, Nat.mod_eq_of_lt (by omega)]
  omega
theorem headGet_put (h : HeadV) (ok : h.ok) (hm : mayL h = true) (r : List UInt8) : headGetS (headB h ++ r) = .ok h := by
  obtain ⟨l, hl⟩ : ∃ l, l = headB h ++ r := ⟨_, rfl⟩
  have hlen : l.length = 64 + r.length := by rw [hl, List.length_append, headB_len]
  have d0 : l.drop 0 = leB (1112364030 : Int).toNat 4 ++ (leB (64 : Int).toNat 2 ++ (leB h.charge.toNat 2 ++ (leB h.status.toNat 4 ++ (leB h.command.toNat 2 ++ (leB h.credits.toNat 2 ++ (leB h.flags.toNat 4 ++ (leB h.next.toNat 4 ++ (leB h.id.toNat 8 ++ (asyncB h ++ (leB h.session.toNat 8 ++ (h.sign.1 ++ r))))))))))) := by
    have e1 : leB (1112364030 : Int).toNat 4 = [0xfe, 0x53, 0x4d, 0x42] := by decide
    rw [List.drop_zero, hl, e1]
    unfold headB headA
    simp only [List.append_assoc]
    rfl
  have d4 := cat_drop d0 (leB_len _ _) (m := 4) rfl
  have d6 := cat_drop d4 (leB_len _ _) (m := 6) rfl
  have d8 := cat_drop d6 (leB_len _ _) (m := 8) rfl
  have d12 := cat_drop d8 (leB_len _ _) (m := 12) rfl
  have d14 := cat_drop d12 (leB_len _ _) (m := 14) rfl
  have d16 := cat_drop d14 (leB_len _ _) (m := 16) rfl
  have d20 := cat_drop d16 (leB_len _ _) (m := 20) rfl
  have d24 := cat_drop d20 (leB_len _ _) (m := 24) rfl
  have d32 := cat_drop d24 (leB_len _ _) (m := 32) rfl
  have d40 := cat_drop d32 (asyncB_len _) (m := 40) rfl
  have d48 := cat_drop d40 (leB_len _ _) (m := 48) rfl
  have n0 := num_at d0 (by decide) (by decide)
  have n4 := num_at d4 (by decide) (by decide)
  have n6 := num_at d6 ok.charge.1 ok.charge.2
  have n8 := num_at d8 ok.status.1 ok.status.2
  have n12 := num_at d12 ok.command.1 ok.command.2
  have n14 := num_at d14 ok.credits.1 ok.credits.2
  have n16 := num_at d16 ok.flags.1 ok.flags.2
  have n20 := num_at d20 ok.next.1 ok.next.2
  have n24 := num_at d24 ok.id.1 ok.id.2
  have n40 := num_at d40 ok.session.1 ok.session.2
  have hS : cutL l 48 16 = h.sign.1 := by unfold cutL; rw [d48, List.take_left' h.sign.2]
  have hS2 : (cutL l (0 + 48) 16).length = 16 := by rw [Nat.zero_add, hS, h.sign.2]
  have hsg : (if hs : (cutL l (0 + 48) 16).length = 16 then (⟨cutL l (0 + 48) 16, hs⟩ : Arr 16) else ⟨List.replicate 16 0, rfl⟩) = h.sign := by
    rw [dif_pos hS2]
    exact Subtype.ext (by simp only [Nat.zero_add]; exact hS)
  have hmay := hm
  unfold mayL at hmay
  have hg : getH l 0 = h ∧ (¬ hasF h.flags 2 → numAt l 32 4 = 0) := by
    unfold getH
    simp only [Nat.zero_add] at *
    rw [hsg, n6, n8, n12, n14, n16, n20, n24, n40]
    by_cases hf : hasF h.flags 2
    · rw [if_pos hf] at hmay
      simp at hmay
      have ea : asyncB h = leB h.async.toNat 8 := if_pos hf
      rw [ea] at d32
      have n32 := num_at d32 ok.async.1 ok.async.2
      rw [if_pos hf, if_pos hf, n32]
      refine ⟨?_, fun hn => absurd hf hn⟩
      have := hmay.2.2
      cases h
      simp only at this
      subst this
      rfl
    · rw [if_neg hf] at hmay
      simp at hmay
      have ea : asyncB h = leB 0 4 ++ leB h.tree.toNat 4 := if_neg hf
      rw [ea, List.append_assoc] at d32
      have e0 : leB 0 4 = leB (0 : Int).toNat 4 := rfl
      rw [e0] at d32
      have n32 := num_at d32 (by decide) (by decide)
      have d36 := cat_drop d32 (leB_len _ _) (m := 36) rfl
      have n36 := num_at d36 ok.tree.1 ok.tree.2
      rw [if_neg hf, if_neg hf, n36]
      refine ⟨?_, fun _ => by omega⟩
      have := hmay.2.2
      cases h
      simp only at this
      subst this
      rfl
  rw [← hl]
  have hb : badH l 0 = false := by
    unfold badH
    rw [hg.1, hm]
    simp only [Nat.zero_add]
    rw [n16]
    have a0 : numAt l 0 4 = 1112364030 := by omega
    have a4 : numAt l 4 2 = 64 := by omega
    by_cases hf : hasF h.flags 2
    · simp [a0, a4, hf]
    · simp [a0, a4, hf, hg.2 hf]
  unfold headGetS
  rw [if_neg (by omega), hb, hg.1]
  rfl
/-! ### messages -/
structure MsgS where
  head : HeadV
  ask : AskS
  say : SayS
noncomputable def bodyPut (m : MsgS) : Except Int (List UInt8) :=
  if hasF m.head.flags 1 then
    if m.head.status ≠ 0 then .ok [0, 0, 0, 0]
    else match sayF m.head.command with
      | some F => F.put m.say
      | none => .error 2
  else match askF m.head.command with
    | some F => F.put m.ask
    | none => .error 2
def bodyGet (h : HeadV) (l : List UInt8) : Except Int MsgS :=
  if hasF h.flags 1 then
    if h.status ≠ 0 then (if l.length < 4 then .error 4 else if l = [0, 0, 0, 0] then .ok ⟨h, zeroAS, zeroSS⟩ else .error 5)
    else match sayF h.command with
      | some F => (match F.get l with | .ok s => .ok ⟨h, zeroAS, s⟩ | .error e => .error e)
      | none => .error 5
  else match askF h.command with
    | some F => (match F.get l with | .ok a => .ok ⟨h, a, zeroSS⟩ | .error e => .error e)
    | none => .error 2
/-- what a message of this head may not bear -/
def idle (m : MsgS) : Prop := (hasF m.head.flags 1 → m.ask = zeroAS) ∧ (¬ hasF m.head.flags 1 ∨ m.head.status ≠ 0 → m.say = zeroSS)
def padN (n : Nat) : Nat := (8 - n % 8) % 8
def padOf (h : HeadV) (n : Nat) : List UInt8 := if h.next = 0 then [] else List.replicate (padN n) 0
open Classical in
noncomputable def msgPut (m : MsgS) : Except Int (List UInt8) :=
  if mayL m.head = true ∧ idle m then
    match bodyPut m with
    | .error e => .error e
    | .ok b => .ok (headB m.head ++ b ++ padOf m.head (64 + b.length))
  else .error 2
def zeros (l : List UInt8) : Bool := l.all (· == 0)
/-- the first of some lengths without zeros behind it that can be got -/
def findN (h : HeadV) (b : List UInt8) : Nat → Nat → Option MsgS
  | 0, _ => none
  | f + 1, n =>
    if n ≤ b.length ∧ zeros (b.drop (b.length - n)) = true then
      match bodyGet h (b.take (b.length - n)) with
      | .ok m => some m
      | .error _ => findN h b f (n + 1)
    else findN h b f (n + 1)
def msgGet (l : List UInt8) : Except Int MsgS := match headGetS l with
  | .error e => .error e
  | .ok h =>
    if h.next = 0 then bodyGet h (l.drop 64)
    else if l.length % 8 ≠ 0 then (match bodyGet h (l.drop 64) with | .ok _ => .error 5 | .error e => .error e)
    else match findN h (l.drop 64) 8 0 with
      | some m => .ok m
      | none => (match bodyGet h (l.drop 64) with | .ok _ => .error 5 | .error e => .error e)
theorem body_back {m : MsgS} (hi : idle m) {b : List UInt8} (h : bodyPut m = .ok b) : bodyGet m.head b = .ok m := by
  obtain ⟨h1, h2⟩ := hi
  unfold bodyPut at h
  unfold bodyGet
  obtain ⟨hd, a, s⟩ := m
  simp only at *
  by_cases hr : hasF hd.flags 1
  · rw [if_pos hr] at h ⊢
    have ha := h1 hr
    by_cases hs : hd.status ≠ 0
    · rw [if_pos hs] at h ⊢
      injection h with h
      rw [if_neg (by rw [← h]; decide), if_pos h.symm, ha, h2 (Or.inr hs)]
    · rw [if_neg hs] at h ⊢
      cases hF : sayF hd.command with
      | none => rw [hF] at h; cases h
      | some F =>
        rw [hF] at h
        simp only at h ⊢
        rw [F.back h, ha]
  · rw [if_neg hr] at h ⊢
    cases hF : askF hd.command with
    | none => rw [hF] at h; cases h
    | some F =>
      rw [hF] at h
      simp only at h ⊢
      rw [F.back h, h2 (Or.inl hr)]
theorem body_more {m : MsgS} {b : List UInt8} (h : bodyPut m = .ok b) (c : UInt8) (r : List UInt8) : bodyGet m.head (b ++ c :: r) = .error 5 := by
  unfold bodyPut at h
  unfold bodyGet
  obtain ⟨hd, a, s⟩ := m
  simp only at *
  by_cases hr : hasF hd.flags 1
  · rw [if_pos hr] at h ⊢
    by_cases hs : hd.status ≠ 0
    · rw [if_pos hs] at h ⊢
      injection h with h
      subst h
      rw [if_neg (by simp), if_neg (by simp)]
    · rw [if_neg hs] at h ⊢
      cases hF : sayF hd.command with
      | none => rfl
      | some F =>
        rw [hF] at h
        simp only at h ⊢
        rw [F.more h]
  · rw [if_neg hr] at h ⊢
    cases hF : askF hd.command with
    | none => rw [hF] at h; cases h
    | some F =>
      rw [hF] at h
      simp only at h ⊢
      rw [F.more h]
theorem padN_lt (n : Nat) : padN n < 8 := by unfold padN; omega
theorem padN_sum (n : Nat) : (n + padN n) % 8 = 0 := by unfold padN; omega
theorem zeros_rep (n : Nat) : zeros (List.replicate n 0) = true := by simp [zeros]
/-- a body with zeros behind it is found -/
theorem find_pad {m : MsgS} {b : List UInt8} (hi : idle m) (hp : bodyPut m = .ok b) (k : Nat) : ∀ f n, n ≤ k → k < n + f → findN m.head (b ++ List.replicate k 0) f n = some m := by
  intro f
  induction f with
  | zero => intro n h1 h2; omega
  | succ f ih =>
    intro n h1 h2
    have hlen : (b ++ List.replicate k (0 : UInt8)).length = b.length + k := by simp
    have hd : (b ++ List.replicate k (0 : UInt8)).drop (b.length + k - n) = List.replicate n 0 := by
      rw [List.drop_append, List.drop_eq_nil_of_le (by omega), List.nil_append, List.drop_replicate]
      congr 1; omega
    have ht : (b ++ List.replicate k (0 : UInt8)).take (b.length + k - n) = b ++ List.replicate (k - n) 0 := by
      rw [List.take_append, List.take_of_length_le (by omega), List.take_replicate]
      congr 2; omega
    unfold findN
    rw [hlen, hd, ht, if_pos ⟨by omega, zeros_rep n⟩]
    by_cases hk : n = k
    · subst hk
      rw [Nat.sub_self, List.replicate_zero, List.append_nil, body_back hi hp]
    · have : k - n = (k - n - 1) + 1 := by omega
      rw [this, List.replicate_succ, body_more hp]
      exact ih (n + 1) (by omega) (by omega)
theorem msg_back {m : MsgS} (ok : m.head.ok) {b : List UInt8} (h : msgPut m = .ok b) : msgGet b = .ok m ∧ (m.head.next = 0 ∨ b.length % 8 = 0) := by
  unfold msgPut at h
  split at h
  · rename_i hc
    obtain ⟨hm, hi⟩ := hc
    split at h
    · cases h
    · rename_i c hp
      injection h with h
      subst h
      unfold msgGet
      rw [List.append_assoc, headGet_put m.head ok hm]
      simp only
      have hd : (headB m.head ++ (c ++ padOf m.head (64 + c.length))).drop 64 = c ++ padOf m.head (64 + c.length) := List.drop_left' (headB_len _)
      rw [hd]
      by_cases hn : m.head.next = 0
      · refine ⟨?_, Or.inl hn⟩
        rw [if_pos hn]
        unfold padOf
        rw [if_pos hn, List.append_nil]
        exact body_back hi hp
      · have hl : (headB m.head ++ (c ++ padOf m.head (64 + c.length))).length % 8 = 0 := by
          unfold padOf
          rw [if_neg hn]
          simp only [List.length_append, headB_len, List.length_replicate]
          have := padN_sum (64 + c.length)
          omega
        refine ⟨?_, Or.inr hl⟩
        rw [if_neg hn, if_neg (by omega)]
        unfold padOf
        rw [if_neg hn, find_pad hi hp _ 8 0 (by omega) (by have := padN_lt (64 + c.length); omega)]
  · cases h
end Go.Proofs.YtinfdomlpbikaaaGreatDoor
namespace Go.Proofs.YtinfdomlpbikaaaGreatDoor
open Go.Eng Go.Lib
set_option linter.unusedSimpArgs false
set_option linter.unusedVariables false
set_option maxRecDepth 100000
variable {w w0 : World}
/-- a reader's cells: its bytes, its place, its error, and what else there is -/
def rdC (s : Value) (a e : Int) (rest : List Value) : Array Value := (s :: .int .i64 a :: .int .i64 e :: rest).toArray
section
variable (s : Value) (a e : Int) (rest : List Value)
@[go_sem] theorem rdC_q0 : (rdC s a e rest)[0]? = some s := (rfl)
@[go_sem] theorem rdC_q1 : (rdC s a e rest)[1]? = some (.int .i64 a) := (rfl)
@[go_sem] theorem rdC_q2 : (rdC s a e rest)[2]? = some (.int .i64 e) := (rfl)
@[go_sem] theorem rdC_g0 (hp : 0 < (rdC s a e rest).size) : (rdC s a e rest)[0] = s := (rfl)
@[go_sem] theorem rdC_g1 (hp : 1 < (rdC s a e rest).size) : (rdC s a e rest)[1] = .int .i64 a := (rfl)
@[go_sem] theorem rdC_g2 (hp : 2 < (rdC s a e rest).size) : (rdC s a e rest)[2] = .int .i64 e := (rfl)
@[go_sem] theorem rdC_s1 (z : Int) : (rdC s a e rest).setIfInBounds 1 (.int .i64 z) = rdC s z e rest := by
  apply Array.toList_inj.1
  rw [Array.toList_setIfInBounds]
  rfl
@[go_sem] theorem rdC_s2 (z : Int) : (rdC s a e rest).setIfInBounds 2 (.int .i64 z) = rdC s a z rest := by
  apply Array.toList_inj.1
  rw [Array.toList_setIfInBounds]
  rfl
@[go_sem] theorem rdC_size : (rdC s a e rest).size = rest.length + 3 := by simp [rdC]
end
/-- where a reader stands -/
def StOk (l : List UInt8) (a e : Int) : Except Int (List UInt8) → Prop
  | .ok r => e = 0 ∧ ∃ n : Nat, a = n ∧ n ≤ l.length ∧ r = l.drop n
  | .error x => e = x ∧ x ≠ 0
def RdCell (w : World) (b : Nat) (T : TypeId) (p : Option Addr) (cap : Nat) (l : List UInt8) (rest : List Value) (st : Except Int (List UInt8)) : Prop :=
  ∃ a e : Int, w.heap[b]? = some (.cells (rdC (.slice p l.length cap) a e rest) T (0, 0)) ∧ StOk l a e st
structure RdI (w0 w : World) (b : Nat) (T : TypeId) (p : Option Addr) (cap : Nat) (l : List UInt8) (rest : List Value) (st : Except Int (List UInt8)) : Prop where
  u : Upd noB w0 w
  new : w0.heap.size ≤ b
  bytes : BytesAt w0 (.slice p l.length cap) l
  len : l.length ≤ 1099511627776
  cell : RdCell w b T p cap l rest st
section
variable {b : Nat} {T : TypeId} {p : Option Addr} {cap : Nat} {l : List UInt8} {rest : List Value} {st st' : Except Int (List UInt8)}
theorem RdI.err {x : Int} (I : RdI w0 w b T p cap l rest (.error x)) : x ≠ 0 := by
  obtain ⟨a, e, h1, h2, h3⟩ := I.cell
  exact h3
theorem RdI.ne (I : RdI w0 w b T p cap l rest st) : ∀ e, st = .error e → e ≠ 0 := by
  intro e h
  subst h
  exact I.err
/-- other blocks turn -/
theorem RdI.keep {S : Nat → Prop} {w' : World} (I : RdI w0 w b T p cap l rest st) (u : Upd S w w') (hb : ¬ S b) (hS : ∀ i, S i → w0.heap.size ≤ i) : RdI w0 w' b T p cap l rest st := by
  obtain ⟨a, e, h1, h2⟩ := I.cell
  exact ⟨I.u.trans' u (fun i hi hlt => by have := hS i hi; omega), I.new, I.bytes, I.len, a, e, u.get h1 hb, h2⟩
/-- its own block turns -/
theorem RdI.set {w' : World} {a e : Int} {rest' : List Value} (I : RdI w0 w b T p cap l rest st) (u : Upd (fun x => x = b) w w') (h : w'.heap[b]? = some (.cells (rdC (.slice p l.length cap) a e rest') T (0, 0))) (hs : StOk l a e st') : RdI w0 w' b T p cap l rest' st' :=
  ⟨I.u.trans' u (fun i hi hlt => by have := I.new; omega), I.new, I.bytes, I.len, a, e, h, hs⟩
theorem num_err {k : Nat} {e : Int} : Rd (numC k) (.error e) (.error e) 0 := ⟨rfl, by intro l x r h; cases h⟩
theorem num_short {k n : Nat} (hn : n ≤ l.length) (h : l.length < n + k) : Rd (numC k) (.ok (l.drop n)) (.error 4) 0 := by
  have hs : (l.drop n).length < k := by simp; omega
  refine ⟨by simp only [nxC, numC, if_pos hs], ?_⟩
  intro l' x r h1 h2
  injection h1 with h1
  subst h1
  simp only [numC, if_pos hs] at h2
  cases h2
theorem num_full {k n : Nat} (h : n + k ≤ l.length) : Rd (numC k) (.ok (l.drop n)) (.ok (l.drop (n + k))) (numAt l n k) := by
  have hs : ¬ (l.drop n).length < k := by simp; omega
  refine ⟨by simp only [nxC, numC, if_neg hs, List.drop_drop], ?_⟩
  intro l' x r h1 h2
  injection h1 with h1
  subst h1
  simp only [numC, if_neg hs] at h2
  injection h2 with h2
  injection h2 with h3 h4
theorem numAt_bound (l : List UInt8) (n k : Nat) : (0 : Int) ≤ (numAt l n k : Int) ∧ (numAt l n k : Int) < ((256 ^ k : Nat) : Int) := by
  have := numAt_lt l n k
  omega
theorem pow_pos (k : Nat) : (0 : Int) < ((256 ^ k : Nat) : Int) := by
  have : 0 < 256 ^ k := Nat.pow_pos (by decide)
  omega
/-- what a reading comes to -/
def RdOut {α : Type} (C : Codec α) (w0 w : World) (b : Nat) (T : TypeId) (p : Option Addr) (cap : Nat) (l : List UInt8) (rest : List Value) (st : Except Int (List UInt8)) (w' : World) (v : α) : Prop :=
  Upd (fun x => x = b) w w' ∧ ∃ st', RdI w0 w' b T p cap l rest st' ∧ Rd C st st' v
def NumR (C : Codec Int) (k : Nat) (w0 w : World) (b : Nat) (T : TypeId) (p : Option Addr) (cap : Nat) (l : List UInt8) (rest : List Value) (st : Except Int (List UInt8)) (v : Value) (w' : World) : Prop :=
  ∃ x : Int, v = .int .u64 x ∧ 0 ≤ x ∧ x < ((256 ^ k : Nat) : Int) ∧ RdOut C w0 w b T p cap l rest st w' x
theorem talkN {k : Nat} (hk : sizeOk k) (I : RdI w0 w b T p cap l rest st) : CallP Tryz.prog 151 #[.pointer (some ⟨b, 0, none⟩), .int .i64 k] w (NumR (numC k) k w0 w b T p cap l rest st) := by
  obtain ⟨a, e, hc, hst⟩ := I.cell
  have hl := I.len
  have hk8 : k ≤ 8 := by unfold sizeOk at hk; omega
  refine call_den (args := [_, _]) Tryz.func151 rfl rfl (by simp [Tryz.ntmps151]) ?_
  cases st with
  | error x =>
    obtain ⟨rfl, hx⟩ := hst
    simp [go_sem, hc, hx]
    exact ⟨0, rfl, Int.le_refl _, pow_pos k, Upd.refl _ _, .error e, I, num_err⟩
  | ok r =>
    obtain ⟨rfl, n, rfl, hn, rfl⟩ := hst
    have hw1 : IntKind.i64.wrap ((l.length : Int) - n) = (l.length : Int) - n := wrap64_id (by omega) (by omega)
    have hw2 : IntKind.i64.wrap ((n : Int) + k) = (n : Int) + k := wrap64_id (by omega) (by omega)
    simp [go_sem, hc]
    refine draw_script [.pure 0, .pure 5, .pure 10, .still [1, 2, 3, 4, 6, 7, 8], .one 9, .one 11] (by kernel_rfl) (by kernel_rfl) (by kernel_rfl) ?_
    by_cases hs : l.length < n + k
    · have n1 : (l.length : Int) - n < k := by omega
      simp [go_sem, hc, hw1, n1]
      have u : Upd (fun x => x = b) w (w.drew.setB b (.cells (rdC (.slice p l.length cap) n 4 rest) T (0, 0))) := (Upd.refl _ _).drew.setB _ _ (fun _ => rfl)
      exact ⟨0, rfl, Int.le_refl _, pow_pos k, u, .error 4, I.set u (by rw [heap_setB, if_pos rfl, heap_drew, hc]; rfl) ⟨rfl, by decide⟩, num_short hn hs⟩
    · have n1 : ¬ (l.length : Int) - n < k := by omega
      simp [go_sem, hc, hw1, n1]
      refine draw_script [.pure 0, .pure 4, .pure 8, .still [1, 2, 3, 5, 6, 7], .one 9, .pure 10, .still [11, 12, 13], .pure 14] (by kernel_rfl) (by kernel_rfl) (by kernel_rfl) ?_
      simp [go_sem, hc]
      have ud : Upd noB w0 w.drew.drew := I.u.drew.drew
      refine CallP.mono (endsGet_any (I.bytes.keep0 ud) (by omega) n k (by omega) hk) ?_
      rintro v W ⟨rfl, hW⟩
      have hu : Upd (fun x => x = b) w W := by rw [hW]; exact (Upd.refl _ _).drew.drew
      have hcW : W.heap[b]? = some (.cells (rdC (.slice p l.length cap) n 0 rest) T (0, 0)) := by rw [hW]; exact hc
      clear hW
      simp [go_sem, hcW, hw2]
      have u : Upd (fun x => x = b) w (W.setB b (.cells (rdC (.slice p l.length cap) ((n : Int) + k) 0 rest) T (0, 0))) := hu.setB _ _ (fun _ => rfl)
      exact ⟨_, rfl, (numAt_bound l n k).1, (numAt_bound l n k).2, u, .ok (l.drop (n + k)), I.set u (by rw [heap_setB, if_pos rfl, hcW]; rfl) ⟨rfl, n + k, by omega, by omega, rfl⟩, num_full (by omega)⟩
theorem fileN {k : Nat} (hk : sizeOk k) (I : RdI w0 w b T p cap l rest st) : CallP Tryz.prog 164 #[.pointer (some ⟨b, 0, none⟩), .int .i64 k] w (NumR (numC k) k w0 w b T p cap l rest st) := by
  obtain ⟨a, e, hc, hst⟩ := I.cell
  have hl := I.len
  have hk8 : k ≤ 8 := by unfold sizeOk at hk; omega
  refine call_den (args := [_, _]) Tryz.func164 rfl rfl (by simp [Tryz.ntmps164]) ?_
  cases st with
  | error x =>
    obtain ⟨rfl, hx⟩ := hst
    simp [go_sem, hc, hx]
    exact ⟨0, rfl, Int.le_refl _, pow_pos k, Upd.refl _ _, .error e, I, num_err⟩
  | ok r =>
    obtain ⟨rfl, n, rfl, hn, rfl⟩ := hst
    have hw1 : IntKind.i64.wrap ((l.length : Int) - n) = (l.length : Int) - n := wrap64_id (by omega) (by omega)
    have hw2 : IntKind.i64.wrap ((n : Int) + k) = (n : Int) + k := wrap64_id (by omega) (by omega)
    simp [go_sem, hc]
    refine draw_script [.pure 0, .pure 5, .pure 10, .still [1, 2, 3, 4, 6, 7, 8], .one 9, .one 11] (by kernel_rfl) (by kernel_rfl) (by kernel_rfl) ?_
    by_cases hs : l.length < n + k
    · have n1 : (l.length : Int) - n < k := by omega
      simp [go_sem, hc, hw1, n1]
      have u : Upd (fun x => x = b) w (w.drew.setB b (.cells (rdC (.slice p l.length cap) n 4 rest) T (0, 0))) := (Upd.refl _ _).drew.setB _ _ (fun _ => rfl)
      exact ⟨0, rfl, Int.le_refl _, pow_pos k, u, .error 4, I.set u (by rw [heap_setB, if_pos rfl, heap_drew, hc]; rfl) ⟨rfl, by decide⟩, num_short hn hs⟩
    · have n1 : ¬ (l.length : Int) - n < k := by omega
      simp [go_sem, hc, hw1, n1]
      refine draw_script [.pure 0, .pure 4, .pure 8, .still [1, 2, 3, 5, 6, 7], .one 9, .pure 10, .still [11, 12, 13], .pure 14] (by kernel_rfl) (by kernel_rfl) (by kernel_rfl) ?_
      simp [go_sem, hc]
      have ud : Upd noB w0 w.drew.drew := I.u.drew.drew
      refine CallP.mono (endsGet_any (I.bytes.keep0 ud) (by omega) n k (by omega) hk) ?_
      rintro v W ⟨rfl, hW⟩
      have hu : Upd (fun x => x = b) w W := by rw [hW]; exact (Upd.refl _ _).drew.drew
      have hcW : W.heap[b]? = some (.cells (rdC (.slice p l.length cap) n 0 rest) T (0, 0)) := by rw [hW]; exact hc
      clear hW
      simp [go_sem, hcW, hw2]
      have u : Upd (fun x => x = b) w (W.setB b (.cells (rdC (.slice p l.length cap) ((n : Int) + k) 0 rest) T (0, 0))) := hu.setB _ _ (fun _ => rfl)
      exact ⟨_, rfl, (numAt_bound l n k).1, (numAt_bound l n k).2, u, .ok (l.drop (n + k)), I.set u (by rw [heap_setB, if_pos rfl, hcW]; rfl) ⟨rfl, n + k, by omega, by omega, rfl⟩, num_full (by omega)⟩
theorem infoN {k : Nat} (hk : sizeOk k) (I : RdI w0 w b T p cap l rest st) : CallP Tryz.prog 137 #[.pointer (some ⟨b, 0, none⟩), .int .i64 k] w (NumR (numC k) k w0 w b T p cap l rest st) := by
  obtain ⟨a, e, hc, hst⟩ := I.cell
  have hl := I.len
  have hk8 : k ≤ 8 := by unfold sizeOk at hk; omega
  refine call_den (args := [_, _]) Tryz.func137 rfl rfl (by simp [Tryz.ntmps137]) ?_
  cases st with
  | error x =>
    obtain ⟨rfl, hx⟩ := hst
    simp [go_sem, hc, hx]
    exact ⟨0, rfl, Int.le_refl _, pow_pos k, Upd.refl _ _, .error e, I, num_err⟩
  | ok r =>
    obtain ⟨rfl, n, rfl, hn, rfl⟩ := hst
    have hw1 : IntKind.i64.wrap ((l.length : Int) - n) = (l.length : Int) - n := wrap64_id (by omega) (by omega)
    have hw2 : IntKind.i64.wrap ((n : Int) + k) = (n : Int) + k := wrap64_id (by omega) (by omega)
    simp [go_sem, hc]
    refine draw_script [.pure 0, .pure 5, .pure 10, .still [1, 2, 3, 4, 6, 7, 8], .one 9, .one 11] (by kernel_rfl) (by kernel_rfl) (by kernel_rfl) ?_
    by_cases hs : l.length < n + k
    · have n1 : (l.length : Int) - n < k := by omega
      simp [go_sem, hc, hw1, n1]
      have u : Upd (fun x => x = b) w (w.drew.setB b (.cells (rdC (.slice p l.length cap) n 4 rest) T (0, 0))) := (Upd.refl _ _).drew.setB _ _ (fun _ => rfl)
      exact ⟨0, rfl, Int.le_refl _, pow_pos k, u, .error 4, I.set u (by rw [heap_setB, if_pos rfl, heap_drew, hc]; rfl) ⟨rfl, by decide⟩, num_short hn hs⟩
    · have n1 : ¬ (l.length : Int) - n < k := by omega
      simp [go_sem, hc, hw1, n1]
      refine draw_script [.pure 0, .pure 4, .pure 8, .still [1, 2, 3, 5, 6, 7], .one 9, .pure 10, .still [11, 12, 13], .pure 14] (by kernel_rfl) (by kernel_rfl) (by kernel_rfl) ?_
      simp [go_sem, hc]
      have ud : Upd noB w0 w.drew.drew := I.u.drew.drew
      refine CallP.mono (endsGet_any (I.bytes.keep0 ud) (by omega) n k (by omega) hk) ?_
      rintro v W ⟨rfl, hW⟩
      have hu : Upd (fun x => x = b) w W := by rw [hW]; exact (Upd.refl _ _).drew.drew
      have hcW : W.heap[b]? = some (.cells (rdC (.slice p l.length cap) n 0 rest) T (0, 0)) := by rw [hW]; exact hc
      clear hW
      simp [go_sem, hcW, hw2]
      have u : Upd (fun x => x = b) w (W.setB b (.cells (rdC (.slice p l.length cap) ((n : Int) + k) 0 rest) T (0, 0))) := hu.setB _ _ (fun _ => rfl)
      exact ⟨_, rfl, (numAt_bound l n k).1, (numAt_bound l n k).2, u, .ok (l.drop (n + k)), I.set u (by rw [heap_setB, if_pos rfl, hcW]; rfl) ⟨rfl, n + k, by omega, by omega, rfl⟩, num_full (by omega)⟩
/-! ### numbers that may not be great -/
theorem chk_st {C : Codec Int} {m e : Int} {st1 : Except Int (List UInt8)} {x : Int} (R : Rd C st st1 x) {y : Int} (hy : x ≤ m → y = x) : Rd (chkC C (fun x => decide (x ≤ m)) e) st (chkSt (fun x => decide (x ≤ m)) e x st1) y :=
  R.chk (fun h => hy (by simpa using h)) rfl
theorem infoMost {k : Nat} (hk : sizeOk k) {m e : Int} (he : e ≠ 0) (I : RdI w0 w b T p cap l rest st) : CallP Tryz.prog 145 #[.pointer (some ⟨b, 0, none⟩), .int .i64 k, .int .u64 m, .int .i64 e] w (NumR (mostC k m e) k w0 w b T p cap l rest st) := by
  refine call_den (args := [_, _, _, _]) Tryz.func145 rfl rfl (by simp [Tryz.ntmps145]) ?_
  simp [go_sem]
  refine CallP.mono (infoN hk I) ?_
  rintro v W ⟨x, rfl, h0, h1, u, st1, I1, R⟩
  obtain ⟨a, e', hc, hst⟩ := I1.cell
  cases st1 with
  | error z =>
    obtain ⟨rfl, hz⟩ := hst
    have hm : m < x ∨ x ≤ m := by omega
    rcases hm with hm | hm
    · simp [go_sem, hc, hz, hm]
      exact ⟨x, rfl, h0, h1, u, .error e', I1, chk_st (m := m) (e := e) R (fun _ => rfl)⟩
    · have hm' : ¬ m < x := by omega
      simp [go_sem, hc, hz, hm, hm']
      exact ⟨x, rfl, h0, h1, u, .error e', I1, chk_st (m := m) (e := e) R (fun _ => rfl)⟩
  | ok r =>
    obtain ⟨rfl, hst⟩ := hst
    by_cases hm : x ≤ m
    · have hm' : ¬ m < x := by omega
      simp [go_sem, hc, hm, hm']
      refine ⟨x, rfl, h0, h1, u, .ok r, I1, ?_⟩
      have := chk_st (m := m) (e := e) R (y := x) (fun _ => rfl)
      simp only [chkSt, hm, decide_true, decide_false, if_true, if_false, Bool.false_eq_true] at this
      exact this
    · have hm' : m < x := by omega
      simp [go_sem, hc, hm, hm']
      have u2 : Upd (fun x => x = b) w (W.setB b (.cells (rdC (.slice p l.length cap) a e rest) T (0, 0))) := u.setB _ _ (fun _ => rfl)
      refine ⟨x, rfl, by first | omega | exact Int.le_refl _, by first | exact pow_pos k | exact h1, u2, .error e, I1.set (((Upd.refl _ _).setB _ _ (fun _ => rfl))) (by rw [heap_setB, if_pos rfl, hc]; rfl) ⟨rfl, he⟩, ?_⟩
      have := chk_st (m := m) (e := e) R (y := x) (fun h => absurd h hm)
      simp only [chkSt, hm, decide_true, decide_false, if_true, if_false, Bool.false_eq_true] at this
      exact this
end
end Go.Proofs.YtinfdomlpbikaaaGreatDoor
namespace Go.Proofs.YtinfdomlpbikaaaGreatDoor
open Go.Eng Go.Lib
set_option linter.unusedSimpArgs false
set_option linter.unusedVariables false
set_option maxRecDepth 100000
variable {w w0 : World}
section
variable {b : Nat} {T : TypeId} {p : Option Addr} {cap : Nat} {l : List UInt8} {rest : List Value} {st st' : Except Int (List UInt8)}
theorem fileN1 (I : RdI w0 w b T p cap l rest st) : CallP Tryz.prog 129 #[.pointer (some ⟨b, 0, none⟩)] w (NumR (numC 1) 1 w0 w b T p cap l rest st) := by
  refine call_den (args := [_]) Tryz.func129 rfl rfl (by simp [Tryz.ntmps129]) ?_
  simp [go_sem]
  refine CallP.mono (fileN (k := 1) (by decide) I) ?_
  rintro v W ⟨x, rfl, h⟩
  simp [go_sem]
  exact ⟨x, rfl, h⟩
theorem fileN2 (I : RdI w0 w b T p cap l rest st) : CallP Tryz.prog 125 #[.pointer (some ⟨b, 0, none⟩)] w (NumR (numC 2) 2 w0 w b T p cap l rest st) := by
  refine call_den (args := [_]) Tryz.func125 rfl rfl (by simp [Tryz.ntmps125]) ?_
  simp [go_sem]
  refine CallP.mono (fileN (k := 2) (by decide) I) ?_
  rintro v W ⟨x, rfl, h⟩
  simp [go_sem]
  exact ⟨x, rfl, h⟩
theorem fileN4 (I : RdI w0 w b T p cap l rest st) : CallP Tryz.prog 122 #[.pointer (some ⟨b, 0, none⟩)] w (NumR (numC 4) 4 w0 w b T p cap l rest st) := by
  refine call_den (args := [_]) Tryz.func122 rfl rfl (by simp [Tryz.ntmps122]) ?_
  simp [go_sem]
  refine CallP.mono (fileN (k := 4) (by decide) I) ?_
  rintro v W ⟨x, rfl, h⟩
  simp [go_sem]
  exact ⟨x, rfl, h⟩
theorem fileN8 (I : RdI w0 w b T p cap l rest st) : CallP Tryz.prog 121 #[.pointer (some ⟨b, 0, none⟩)] w (NumR (numC 8) 8 w0 w b T p cap l rest st) := by
  refine call_den (args := [_]) Tryz.func121 rfl rfl (by simp [Tryz.ntmps121]) ?_
  simp [go_sem]
  refine CallP.mono (fileN (k := 8) (by decide) I) ?_
  rintro v W ⟨x, rfl, h⟩
  simp [go_sem]
  exact ⟨x, rfl, h⟩
theorem fileSmall2 {m e : Int} (he : e ≠ 0) (I : RdI w0 w b T p cap l rest st) : CallP Tryz.prog 124 #[.pointer (some ⟨b, 0, none⟩), .func (.func 125) #[.pointer (some ⟨b, 0, none⟩)] #[], .int .u64 m, .int .i64 e] w (NumR (mostC 2 m e) 2 w0 w b T p cap l rest st) := by
  refine call_den (args := [_, _, _, _]) Tryz.func124 rfl rfl (by simp [Tryz.ntmps124]) ?_
  simp [go_sem]
  refine CallP.mono (fileN2 I) ?_
  rintro v W ⟨x, rfl, h0, h1, u, st1, I1, R⟩
  obtain ⟨a, e', hc, hst⟩ := I1.cell
  cases st1 with
  | error z =>
    obtain ⟨rfl, hz⟩ := hst
    have hm : m < x ∨ x ≤ m := by omega
    rcases hm with hm | hm
    · simp [go_sem, hc, hz, hm]
      exact ⟨x, rfl, h0, h1, u, .error e', I1, chk_st (m := m) (e := e) R (fun _ => rfl)⟩
    · have hm' : ¬ m < x := by omega
      simp [go_sem, hc, hz, hm, hm']
      exact ⟨x, rfl, h0, h1, u, .error e', I1, chk_st (m := m) (e := e) R (fun _ => rfl)⟩
  | ok r =>
    obtain ⟨rfl, hst⟩ := hst
    by_cases hm : x ≤ m
    · have hm' : ¬ m < x := by omega
      simp [go_sem, hc, hm, hm']
      refine ⟨x, rfl, h0, h1, u, .ok r, I1, ?_⟩
      have := chk_st (m := m) (e := e) R (y := x) (fun _ => rfl)
      simp only [chkSt, hm, decide_true, decide_false, if_true, if_false, Bool.false_eq_true] at this
      exact this
    · have hm' : m < x := by omega
      simp [go_sem, hc, hm, hm']
      have u2 : Upd (fun x => x = b) w (W.setB b (.cells (rdC (.slice p l.length cap) a e rest) T (0, 0))) := u.setB _ _ (fun _ => rfl)
      refine ⟨x, rfl, h0, h1, u2, .error e, I1.set (((Upd.refl _ _).setB _ _ (fun _ => rfl))) (by rw [heap_setB, if_pos rfl, hc]; rfl) ⟨rfl, he⟩, ?_⟩
      have := chk_st (m := m) (e := e) R (y := x) (fun h => absurd h hm)
      simp only [chkSt, hm, decide_true, decide_false, if_true, if_false, Bool.false_eq_true] at this
      exact this
theorem fileSmall4 {m e : Int} (he : e ≠ 0) (I : RdI w0 w b T p cap l rest st) : CallP Tryz.prog 124 #[.pointer (some ⟨b, 0, none⟩), .func (.func 122) #[.pointer (some ⟨b, 0, none⟩)] #[], .int .u64 m, .int .i64 e] w (NumR (mostC 4 m e) 4 w0 w b T p cap l rest st) := by
  refine call_den (args := [_, _, _, _]) Tryz.func124 rfl rfl (by simp [Tryz.ntmps124]) ?_
  simp [go_sem]
  refine CallP.mono (fileN4 I) ?_
  rintro v W ⟨x, rfl, h0, h1, u, st1, I1, R⟩
  obtain ⟨a, e', hc, hst⟩ := I1.cell
  cases st1 with
  | error z =>
    obtain ⟨rfl, hz⟩ := hst
    have hm : m < x ∨ x ≤ m := by omega
    rcases hm with hm | hm
    · simp [go_sem, hc, hz, hm]
      exact ⟨x, rfl, h0, h1, u, .error e', I1, chk_st (m := m) (e := e) R (fun _ => rfl)⟩
    · have hm' : ¬ m < x := by omega
      simp [go_sem, hc, hz, hm, hm']
      exact ⟨x, rfl, h0, h1, u, .error e', I1, chk_st (m := m) (e := e) R (fun _ => rfl)⟩
  | ok r =>
    obtain ⟨rfl, hst⟩ := hst
    by_cases hm : x ≤ m
    · have hm' : ¬ m < x := by omega
      simp [go_sem, hc, hm, hm']
      refine ⟨x, rfl, h0, h1, u, .ok r, I1, ?_⟩
      have := chk_st (m := m) (e := e) R (y := x) (fun _ => rfl)
      simp only [chkSt, hm, decide_true, decide_false, if_true, if_false, Bool.false_eq_true] at this
      exact this
    · have hm' : m < x := by omega
      simp [go_sem, hc, hm, hm']
      have u2 : Upd (fun x => x = b) w (W.setB b (.cells (rdC (.slice p l.length cap) a e rest) T (0, 0))) := u.setB _ _ (fun _ => rfl)
      refine ⟨x, rfl, h0, h1, u2, .error e, I1.set (((Upd.refl _ _).setB _ _ (fun _ => rfl))) (by rw [heap_setB, if_pos rfl, hc]; rfl) ⟨rfl, he⟩, ?_⟩
      have := chk_st (m := m) (e := e) R (y := x) (fun h => absurd h hm)
      simp only [chkSt, hm, decide_true, decide_false, if_true, if_false, Bool.false_eq_true] at this
      exact this
/-- a number that is 0: as one that is at most 0 -/
theorem zero_of {k : Nat} {x : Int} (R : Rd (mostC k 0 5) st st' x) : Rd (zeroC k) st st' () := by
  cases st with
  | error e => exact ⟨R.1, by intro l x r h; cases h⟩
  | ok w =>
    refine ⟨?_, fun _ _ _ _ _ => rfl⟩
    rw [R.1]
    simp only [nxC, zeroC, isoC, mostC, chkC]
    cases hg : (numC k).get w with
    | error e => rfl
    | ok y =>
      obtain ⟨y, r⟩ := y
      have := num_get hg
      simp only
      by_cases hy : y = 0
      · simp [hy]
      · have hy' : ¬ y ≤ 0 := by omega
        simp [hy, hy']
theorem bool_of {k : Nat} {x : Int} (R : Rd (mostC k 1 5) st st' x) : Rd (boolC k) st st' (decide (x = 1)) := R.iso
def UnitR (C : Codec Unit) (w0 w : World) (b : Nat) (T : TypeId) (p : Option Addr) (cap : Nat) (l : List UInt8) (rest : List Value) (st : Except Int (List UInt8)) (v : Value) (w' : World) : Prop := RdOut C w0 w b T p cap l rest st w' ()
theorem talkZero {k : Nat} (hk : sizeOk k) (I : RdI w0 w b T p cap l rest st) : CallP Tryz.prog 154 #[.pointer (some ⟨b, 0, none⟩), .int .i64 k] w (UnitR (zeroC k) w0 w b T p cap l rest st) := by
  refine call_den (args := [_, _]) Tryz.func154 rfl rfl (by simp [Tryz.ntmps154]) ?_
  simp [go_sem]
  refine CallP.mono (talkN hk I) ?_
  rintro v W ⟨x, rfl, h0, h1, u, st1, I1, R⟩
  obtain ⟨a, e', hc, hst⟩ := I1.cell
  by_cases hx : x = 0
  · subst hx
    simp [go_sem]
    refine ⟨u, st1, I1, ?_⟩
    have := chk_st (m := 0) (e := 5) R (y := 0) (fun _ => rfl)
    refine zero_of (x := 0) ?_
    cases st1 with
    | error z => exact this
    | ok r => exact this
  · have hx' : ¬ x ≤ 0 := by omega
    cases st1 with
    | error z =>
      obtain ⟨rfl, hz⟩ := hst
      simp [go_sem, hc, hz, hx]
      exact ⟨u, .error e', I1, zero_of (chk_st (m := 0) (e := 5) R (fun _ => rfl))⟩
    | ok r =>
      obtain ⟨rfl, hst⟩ := hst
      simp [go_sem, hc, hx]
      have u2 : Upd (fun x => x = b) w (W.setB b (.cells (rdC (.slice p l.length cap) a 5 rest) T (0, 0))) := u.setB _ _ (fun _ => rfl)
      refine ⟨u2, .error 5, I1.set (((Upd.refl _ _).setB _ _ (fun _ => rfl))) (by rw [heap_setB, if_pos rfl, hc]; rfl) ⟨rfl, by decide⟩, ?_⟩
      have := chk_st (m := 0) (e := 5) R (y := 0) (fun h => absurd h hx')
      simp only [chkSt, hx', decide_true, decide_false, if_true, if_false, Bool.false_eq_true] at this
      exact zero_of this
theorem infoZero {k : Nat} (hk : sizeOk k) (I : RdI w0 w b T p cap l rest st) : CallP Tryz.prog 138 #[.pointer (some ⟨b, 0, none⟩), .int .i64 k] w (UnitR (zeroC k) w0 w b T p cap l rest st) := by
  refine call_den (args := [_, _]) Tryz.func138 rfl rfl (by simp [Tryz.ntmps138]) ?_
  simp [go_sem]
  refine CallP.mono (infoMost hk (m := 0) (e := 5) (by decide) I) ?_
  rintro v W ⟨x, rfl, h0, h1, u, st1, I1, R⟩
  simp [go_sem]
  exact ⟨u, st1, I1, zero_of R⟩
def BoolR (C : Codec Bool) (w0 w : World) (b : Nat) (T : TypeId) (p : Option Addr) (cap : Nat) (l : List UInt8) (rest : List Value) (st : Except Int (List UInt8)) (v : Value) (w' : World) : Prop := ∃ x, v = .bool x ∧ RdOut C w0 w b T p cap l rest st w' x
theorem infoTruth (I : RdI w0 w b T p cap l rest st) : CallP Tryz.prog 146 #[.pointer (some ⟨b, 0, none⟩)] w (BoolR (boolC 2) w0 w b T p cap l rest st) := by
  refine call_den (args := [_]) Tryz.func146 rfl rfl (by simp [Tryz.ntmps146]) ?_
  simp [go_sem]
  refine CallP.mono (infoMost (k := 2) (by decide) (m := 1) (e := 5) (by decide) I) ?_
  rintro v W ⟨x, rfl, h0, h1, u, st1, I1, R⟩
  simp [go_sem]
  exact ⟨_, rfl, u, st1, I1, bool_of R⟩
/-! ### the end -/
def EndR (w0 w : World) (b : Nat) (T : TypeId) (p : Option Addr) (cap : Nat) (l : List UInt8) (rest : List Value) (st : Except Int (List UInt8)) (v : Value) (w' : World) : Prop :=
  v = .int .i64 (finE st) ∧ Upd (fun x => x = b) w w' ∧ ∃ st', RdI w0 w' b T p cap l rest st'
theorem fin_more {n : Nat} (hn : n ≤ l.length) (h : n ≠ l.length) : finE (.ok (l.drop n)) = 5 := by
  cases hd : l.drop n with
  | nil => rw [List.drop_eq_nil_iff] at hd; omega
  | cons x r => rfl
theorem talkEnd (I : RdI w0 w b T p cap l rest st) : CallP Tryz.prog 155 #[.pointer (some ⟨b, 0, none⟩)] w (EndR w0 w b T p cap l rest st) := by
  obtain ⟨a, e, hc, hst⟩ := I.cell
  refine call_den (args := [_]) Tryz.func155 rfl rfl (by simp [Tryz.ntmps155]) ?_
  simp [go_sem]
  refine draw_script [.pure 0, .one 1, .pure 2, .one 3, .one 4, .pure 5, .pure 6, .pure 10, .still [7, 8, 9, 11, 12, 13, 14], .one 15, .one 16] (by kernel_rfl) (by kernel_rfl) (by kernel_rfl) ?_
  cases st with
  | error x =>
    obtain ⟨rfl, hx⟩ := hst
    simp [go_sem, hc, hx]
    exact ⟨rfl, (Upd.refl _ _).drew, .error e, I.keep (Upd.refl noB w).drew (by simp [noB]) (fun _ h => h.elim)⟩
  | ok r =>
    obtain ⟨rfl, n, rfl, hn, rfl⟩ := hst
    by_cases h : n = l.length
    · simp [go_sem, hc, h]
      exact ⟨rfl, (Upd.refl _ _).drew, .ok (l.drop n), I.keep (Upd.refl noB w).drew (by simp [noB]) (fun _ h => h.elim)⟩
    · have h' : ¬ (n : Int) = l.length := by omega
      simp [go_sem, hc, h, h']
      skip
      have u2 : Upd (fun x => x = b) w (w.drew.setB b (.cells (rdC (.slice p l.length cap) n 5 rest) T (0, 0))) := (Upd.refl _ _).drew.setB _ _ (fun _ => rfl)
      exact ⟨by rw [fin_more hn h], u2, .error 5, I.set u2 (by rw [heap_setB, if_pos rfl, heap_drew, hc]; rfl) ⟨rfl, by decide⟩⟩
theorem fileEnd (I : RdI w0 w b T p cap l rest st) : CallP Tryz.prog 126 #[.pointer (some ⟨b, 0, none⟩)] w (EndR w0 w b T p cap l rest st) := by
  obtain ⟨a, e, hc, hst⟩ := I.cell
  refine call_den (args := [_]) Tryz.func126 rfl rfl (by simp [Tryz.ntmps126]) ?_
  simp [go_sem]
  refine draw_script [.pure 0, .one 1, .pure 2, .one 3, .one 4, .pure 5, .pure 6, .pure 10, .still [7, 8, 9, 11, 12, 13, 14], .one 15, .one 16] (by kernel_rfl) (by kernel_rfl) (by kernel_rfl) ?_
  cases st with
  | error x =>
    obtain ⟨rfl, hx⟩ := hst
    simp [go_sem, hc, hx]
    exact ⟨rfl, (Upd.refl _ _).drew, .error e, I.keep (Upd.refl noB w).drew (by simp [noB]) (fun _ h => h.elim)⟩
  | ok r =>
    obtain ⟨rfl, n, rfl, hn, rfl⟩ := hst
    by_cases h : n = l.length
    · simp [go_sem, hc, h]
      exact ⟨rfl, (Upd.refl _ _).drew, .ok (l.drop n), I.keep (Upd.refl noB w).drew (by simp [noB]) (fun _ h => h.elim)⟩
    · have h' : ¬ (n : Int) = l.length := by omega
      simp [go_sem, hc, h, h']
      skip
      have u2 : Upd (fun x => x = b) w (w.drew.setB b (.cells (rdC (.slice p l.length cap) n 5 rest) T (0, 0))) := (Upd.refl _ _).drew.setB _ _ (fun _ => rfl)
      exact ⟨by rw [fin_more hn h], u2, .error 5, I.set u2 (by rw [heap_setB, if_pos rfl, heap_drew, hc]; rfl) ⟨rfl, by decide⟩⟩
theorem infoEnd (I : RdI w0 w b T p cap l rest st) : CallP Tryz.prog 141 #[.pointer (some ⟨b, 0, none⟩)] w (EndR w0 w b T p cap l rest st) := by
  obtain ⟨a, e, hc, hst⟩ := I.cell
  refine call_den (args := [_]) Tryz.func141 rfl rfl (by simp [Tryz.ntmps141]) ?_
  simp [go_sem]
  refine draw_script [.pure 0, .one 1, .pure 2, .one 3, .one 4, .pure 5, .pure 6, .pure 10, .still [7, 8, 9, 11, 12, 13, 14], .one 15, .one 16] (by kernel_rfl) (by kernel_rfl) (by kernel_rfl) ?_
  cases st with
  | error x =>
    obtain ⟨rfl, hx⟩ := hst
    simp [go_sem, hc, hx]
    exact ⟨rfl, (Upd.refl _ _).drew, .error e, I.keep (Upd.refl noB w).drew (by simp [noB]) (fun _ h => h.elim)⟩
  | ok r =>
    obtain ⟨rfl, n, rfl, hn, rfl⟩ := hst
    by_cases h : n = l.length
    · simp [go_sem, hc, h]
      exact ⟨rfl, (Upd.refl _ _).drew, .ok (l.drop n), I.keep (Upd.refl noB w).drew (by simp [noB]) (fun _ h => h.elim)⟩
    · have h' : ¬ (n : Int) = l.length := by omega
      simp [go_sem, hc, h, h']
      skip
      have u2 : Upd (fun x => x = b) w (w.drew.setB b (.cells (rdC (.slice p l.length cap) n 5 rest) T (0, 0))) := (Upd.refl _ _).drew.setB _ _ (fun _ => rfl)
      exact ⟨by rw [fin_more hn h], u2, .error 5, I.set u2 (by rw [heap_setB, if_pos rfl, heap_drew, hc]; rfl) ⟨rfl, by decide⟩⟩
end
end Go.Proofs.YtinfdomlpbikaaaGreatDoor
namespace Go.Proofs.YtinfdomlpbikaaaGreatDoor
open Go.Eng Go.Lib
set_option linter.unusedSimpArgs false
set_option linter.unusedVariables false
set_option maxRecDepth 100000
variable {w w0 : World}
section
variable {b : Nat} {T : TypeId} {p : Option Addr} {cap : Nat} {l : List UInt8} {rest : List Value} {st st' : Except Int (List UInt8)}
theorem bytes_err {k : Nat} {e : Int} : Rd (bytesC k) (.error e) (.error e) [] := ⟨rfl, by intro l x r h; cases h⟩
theorem bytes_short {k n : Nat} (hn : n ≤ l.length) (h : l.length < n + k) : Rd (bytesC k) (.ok (l.drop n)) (.error 4) [] := by
  have hs : (l.drop n).length < k := by simp; omega
  refine ⟨by simp only [nxC, bytesC, if_pos hs], ?_⟩
  intro l' x r h1 h2
  injection h1 with h1
  subst h1
  simp only [bytesC, if_pos hs] at h2
  cases h2
theorem bytes_full {k n : Nat} (h : n + k ≤ l.length) : Rd (bytesC k) (.ok (l.drop n)) (.ok (l.drop (n + k))) (cutL l n k) := by
  have hs : ¬ (l.drop n).length < k := by simp; omega
  refine ⟨by simp only [nxC, bytesC, if_neg hs, List.drop_drop], ?_⟩
  intro l' x r h1 h2
  injection h1 with h1
  subst h1
  simp only [bytesC, if_neg hs] at h2
  injection h2 with h2
  injection h2 with h3 h4
def BytesR (C : Codec (List UInt8)) (w0 w : World) (b : Nat) (T : TypeId) (p : Option Addr) (cap : Nat) (l : List UInt8) (rest : List Value) (st : Except Int (List UInt8)) (v : Value) (w' : World) : Prop :=
  ∃ L, OwnB w' w.heap.size v L ∧ (L = [] ∨ (∀ e, nxC C st ≠ .error e)) ∧ RdOut C w0 w b T p cap l rest st w' L
theorem talkPart {k : Nat} (hk : k ≤ 1099511627776) (I : RdI w0 w b T p cap l rest st) : CallP Tryz.prog 152 #[.pointer (some ⟨b, 0, none⟩), .int .i64 k] w (BytesR (bytesC k) w0 w b T p cap l rest st) := by
  obtain ⟨a, e, hc, hst⟩ := I.cell
  have hl := I.len
  refine call_den (args := [_, _]) Tryz.func152 rfl rfl (by simp [Tryz.ntmps152]) ?_
  cases st with
  | error x =>
    obtain ⟨rfl, hx⟩ := hst
    simp [go_sem, hc, hx]
    exact ⟨[], nil_own _ _, Or.inl rfl, Upd.refl _ _, .error e, I, bytes_err⟩
  | ok r =>
    obtain ⟨rfl, n, rfl, hn, rfl⟩ := hst
    obtain ⟨nk, hnk⟩ : ∃ nk, nk = n + k := ⟨_, rfl⟩
    have hw2 : IntKind.i64.wrap ((n : Int) + k) = (nk : Int) := by rw [wrap64_id (by omega) (by omega)]; omega
    simp [go_sem, hc]
    refine draw_script [.pure 0, .pure 4, .pure 8, .still [1, 2, 3, 5, 6, 7], .one 9, .pure 10, .still [11, 12, 13], .pure 14] (by kernel_rfl) (by kernel_rfl) (by kernel_rfl) ?_
    simp [go_sem, hc]
    have ud : Upd noB w0 w.drew := I.u.drew
    by_cases hs : l.length < n + k
    · refine CallP.mono (part_out (I.bytes.keep0 ud) (by omega) n k hs (by omega) hn) ?_
      rintro v W ⟨v3, rfl, u3⟩
      have hcW : W.heap[b]? = some (.cells (rdC (.slice p l.length cap) n 0 rest) T (0, 0)) := u3.get hc (by simp [noB])
      have hu : Upd (fun x => x = b) w W := ((Upd.refl noB w).drew.trans u3).mono (fun _ _ h => h.elim)
      simp [go_sem, hcW]
      have u : Upd (fun x => x = b) w (W.setB b (.cells (rdC (.slice p l.length cap) n 4 rest) T (0, 0))) := hu.setB _ _ (fun _ => rfl)
      exact ⟨[], nil_own _ _, Or.inl rfl, u, .error 4, I.set u (by rw [heap_setB, if_pos rfl, hcW]; rfl) ⟨rfl, by decide⟩, bytes_short hn hs⟩
    · refine CallP.mono (part_any (I.bytes.keep0 ud) (by omega) n k (by omega)) ?_
      rintro v W ⟨v3, rfl, u3, own3⟩
      have hcW : W.heap[b]? = some (.cells (rdC (.slice p l.length cap) n 0 rest) T (0, 0)) := u3.get hc (by simp [noB])
      have hu : Upd (fun x => x = b) w W := ((Upd.refl noB w).drew.trans u3).mono (fun _ _ h => h.elim)
      simp [go_sem, hcW, hw2]
      have u : Upd (fun x => x = b) w (W.setB b (.cells (rdC (.slice p l.length cap) (nk : Int) 0 rest) T (0, 0))) := hu.setB _ _ (fun _ => rfl)
      have R := bytes_full (l := l) (n := n) (k := k) (by omega)
      rw [← hnk] at R
      have hbw := (Array.getElem?_eq_some_iff.1 hc).1
      refine ⟨cutL l n k, own_keep own3 ((Upd.refl (fun x => x = b) W).setB _ _ (fun _ => rfl)) ?_, Or.inr (by rw [← R.1]; intro e he; cases he), u, .ok (l.drop nk), I.set u (by rw [heap_setB, if_pos rfl, hcW]; rfl) ⟨rfl, nk, rfl, by omega, rfl⟩, R⟩
      intro g hg hx
      have := (own3.lt g hg).1
      simp at this
      omega
/-! ### texts -/
theorem text_err {s : ByteArray} {e : Int} : Rd textC (.error e) (.error e) s := ⟨rfl, by intro l x r h; cases h⟩
theorem text_bad {n : Nat} {e : Int} {s : ByteArray} (hn : n ≤ l.length) (h : textGet l n = .error e) : Rd textC (.ok (l.drop n)) (.error e) s := by
  rw [textGet_shift l n hn] at h
  have h' : textGet (l.drop n) 0 = .error e := by
    cases hg : textGet (l.drop n) 0 with
    | error x => rw [hg] at h; simpa [shiftR] using h
    | ok x => rw [hg] at h; cases h
  refine ⟨by simp only [nxC, textC, h'], ?_⟩
  intro l' x r h1 h2
  injection h1 with h1
  subst h1
  simp only [textC, h'] at h2
  cases h2
theorem text_full {n nx : Nat} {t : List UInt8} (hn : n ≤ l.length) (h : textGet l n = .ok (t, nx)) : Rd textC (.ok (l.drop n)) (.ok (l.drop nx)) (strOf t) := by
  rw [textGet_shift l n hn] at h
  cases hg : textGet (l.drop n) 0 with
  | error x => rw [hg] at h; cases h
  | ok x =>
    obtain ⟨t', k⟩ := x
    rw [hg] at h
    simp only [shiftR] at h
    injection h with h
    injection h with h1 h2
    subst h1 h2
    refine ⟨by simp only [nxC, textC, hg, List.drop_drop], ?_⟩
    intro l' x r h1 h2
    injection h1 with h1
    subst h1
    simp only [textC, hg] at h2
    injection h2 with h2
    injection h2 with h3 h4
theorem textGet_err {n : Nat} {e : Int} (h : textGet l n = .error e) : e ≠ 0 := by
  unfold textGet at h
  cases hr : rowGet l n 512 with
  | error x =>
    rw [hr] at h
    injection h with h
    subst h
    exact rowGet_err hr
  | ok x =>
    obtain ⟨row, k⟩ := x
    rw [hr] at h
    simp only at h
    split at h
    · injection h with h
      omega
    · cases h
theorem textGet_len {n nx : Nat} {t : List UInt8} (h : textGet l n = .ok (t, nx)) : nx ≤ l.length := by
  unfold textGet at h
  cases hr : rowGet l n 512 with
  | error x => rw [hr] at h; cases h
  | ok x =>
    obtain ⟨row, k⟩ := x
    rw [hr] at h
    simp only at h
    split at h
    · cases h
    · injection h with h
      injection h with h1 h2
      have := (rowGet_len hr).2.2.1
      omega
def StrR (w0 w : World) (b : Nat) (T : TypeId) (p : Option Addr) (cap : Nat) (l : List UInt8) (rest : List Value) (st : Except Int (List UInt8)) (v : Value) (w' : World) : Prop := ∃ s, v = .string s ∧ RdOut textC w0 w b T p cap l rest st w' s
theorem talkText (I : RdI w0 w b T p cap l rest st) : CallP Tryz.prog 153 #[.pointer (some ⟨b, 0, none⟩)] w (StrR w0 w b T p cap l rest st) := by
  obtain ⟨a, e, hc, hst⟩ := I.cell
  have hl := I.len
  refine call_den (args := [_]) Tryz.func153 rfl rfl (by simp [Tryz.ntmps153]) ?_
  cases st with
  | error x =>
    obtain ⟨rfl, hx⟩ := hst
    simp [go_sem, hc, hx]
    exact ⟨_, rfl, Upd.refl _ _, .error e, I, text_err⟩
  | ok r =>
    obtain ⟨rfl, n, rfl, hn, rfl⟩ := hst
    simp [go_sem, hc]
    refine draw_script [.pure 0, .pure 4, .still [1, 2, 3, 5, 6, 7], .one 8, .pure 9, .still [10, 11, 12, 13, 14], .pure 15] (by kernel_rfl) (by kernel_rfl) (by kernel_rfl) ?_
    simp [go_sem, hc]
    have ud : Upd noB w0 w.drew := I.u.drew
    refine CallP.mono (getText_any (I.bytes.keep0 ud) hl n hn) ?_
    rintro v W ⟨u3, hres⟩
    have hcW : W.heap[b]? = some (.cells (rdC (.slice p l.length cap) n 0 rest) T (0, 0)) := u3.get hc (by simp [noB])
    have hu : Upd (fun x => x = b) w W := ((Upd.refl noB w).drew.trans u3).mono (fun _ _ h => h.elim)
    cases ht : textGet l n with
    | error z =>
      rw [ht] at hres
      simp only [TextR] at hres
      subst hres
      have hz := textGet_err ht
      simp [go_sem, hcW, hz]
      have u : Upd (fun x => x = b) w (W.setB b (.cells (rdC (.slice p l.length cap) n z rest) T (0, 0))) := by repeat (first | exact hu | refine Upd.setB ?_ _ _ (fun _ => rfl))
      exact ⟨_, rfl, u, .error z, I.set (a := n) u (by simp [heap_setB, hcW, go_sem]) ⟨rfl, hz⟩, text_bad hn ht⟩
    | ok x =>
      obtain ⟨t, nx⟩ := x
      rw [ht] at hres
      simp only [TextR] at hres
      subst hres
      have hnx := textGet_len ht
      simp [go_sem, hcW]
      have u : Upd (fun x => x = b) w (W.setB b (.cells (rdC (.slice p l.length cap) nx 0 rest) T (0, 0))) := by repeat (first | exact hu | refine Upd.setB ?_ _ _ (fun _ => rfl))
      exact ⟨_, rfl, u, .ok (l.drop nx), I.set (a := nx) u (by simp [heap_setB, hcW, go_sem]) ⟨rfl, nx, rfl, hnx, rfl⟩, text_full hn ht⟩
theorem infoText (I : RdI w0 w b T p cap l rest st) : CallP Tryz.prog 139 #[.pointer (some ⟨b, 0, none⟩)] w (StrR w0 w b T p cap l rest st) := by
  obtain ⟨a, e, hc, hst⟩ := I.cell
  have hl := I.len
  refine call_den (args := [_]) Tryz.func139 rfl rfl (by simp [Tryz.ntmps139]) ?_
  cases st with
  | error x =>
    obtain ⟨rfl, hx⟩ := hst
    simp [go_sem, hc, hx]
    exact ⟨_, rfl, Upd.refl _ _, .error e, I, text_err⟩
  | ok r =>
    obtain ⟨rfl, n, rfl, hn, rfl⟩ := hst
    simp [go_sem, hc]
    refine draw_script [.pure 0, .pure 4, .still [1, 2, 3, 5, 6, 7], .one 8, .pure 9, .still [10, 11, 12, 13, 14], .pure 15] (by kernel_rfl) (by kernel_rfl) (by kernel_rfl) ?_
    simp [go_sem, hc]
    have ud : Upd noB w0 w.drew := I.u.drew
    refine CallP.mono (getText_any (I.bytes.keep0 ud) hl n hn) ?_
    rintro v W ⟨u3, hres⟩
    have hcW : W.heap[b]? = some (.cells (rdC (.slice p l.length cap) n 0 rest) T (0, 0)) := u3.get hc (by simp [noB])
    have hu : Upd (fun x => x = b) w W := ((Upd.refl noB w).drew.trans u3).mono (fun _ _ h => h.elim)
    cases ht : textGet l n with
    | error z =>
      rw [ht] at hres
      simp only [TextR] at hres
      subst hres
      have hz := textGet_err ht
      simp [go_sem, hcW, hz]
      have u : Upd (fun x => x = b) w ((W.setB b (.cells (rdC (.slice p l.length cap) 0 0 rest) T (0, 0))).setB b (.cells (rdC (.slice p l.length cap) 0 z rest) T (0, 0))) := by repeat (first | exact hu | refine Upd.setB ?_ _ _ (fun _ => rfl))
      exact ⟨_, rfl, u, .error z, I.set (a := 0) u (by simp [heap_setB, hcW, go_sem]) ⟨rfl, hz⟩, text_bad hn ht⟩
    | ok x =>
      obtain ⟨t, nx⟩ := x
      rw [ht] at hres
      simp only [TextR] at hres
      subst hres
      have hnx := textGet_len ht
      simp [go_sem, hcW]
      have u : Upd (fun x => x = b) w ((W.setB b (.cells (rdC (.slice p l.length cap) nx 0 rest) T (0, 0))).setB b (.cells (rdC (.slice p l.length cap) nx 0 rest) T (0, 0))) := by repeat (first | exact hu | refine Upd.setB ?_ _ _ (fun _ => rfl))
      exact ⟨_, rfl, u, .ok (l.drop nx), I.set (a := nx) u (by simp [heap_setB, hcW, go_sem]) ⟨rfl, nx, rfl, hnx, rfl⟩, text_full hn ht⟩
end
end Go.Proofs.YtinfdomlpbikaaaGreatDoor
namespace Go.Proofs.YtinfdomlpbikaaaGreatDoor
open Go.Eng Go.Lib
set_option linter.unusedSimpArgs false
set_option linter.unusedVariables false
set_option maxRecDepth 100000
variable {w w0 : World}
section
variable {b : Nat} {T : TypeId} {p : Option Addr} {cap : Nat} {l : List UInt8} {rest : List Value} {st st' : Except Int (List UInt8)}
/-- bytes of a set length, where there are any -/
theorem arr_of {n : Nat} {L : List UInt8} {a : Arr n} (R : Rd (bytesC n) st st' L) (h : L.length = n → a.1 = L) : Rd (arrC n) st st' a := by
  obtain ⟨h1, h2⟩ := R
  cases st with
  | error e => exact ⟨h1, by intro l x r h; cases h⟩
  | ok w =>
    have e1 : nxC (arrC n) (.ok w) = nxC (bytesC n) (.ok w) := by
      simp only [nxC, arrC, bytesC]
      by_cases hw : w.length < n
      · simp [hw]
      · simp [hw]
    refine ⟨by rw [h1, e1], ?_⟩
    intro l x r hh hg
    injection hh with hh
    subst hh
    have hw : ¬ w.length < n := by
      intro hw
      simp [arrC, hw] at hg
    have hg2 : (bytesC n).get w = .ok (w.take n, w.drop n) := by simp [bytesC, hw]
    have hL := h2 w _ _ rfl hg2
    simp only [arrC, hw, dif_neg, not_false_eq_true] at hg
    injection hg with hg
    injection hg with h3 h4
    rw [← h3]
    apply Subtype.ext
    rw [h (by rw [hL]; simp; omega), hL]
/-- bytes that were not got are none -/
theorem bytes_len {n : Nat} {L : List UInt8} (R : Rd (bytesC n) st st' L) (h : L = [] ∨ ∀ e, nxC (bytesC n) st ≠ .error e) : L = [] ∨ L.length = n := by
  rcases h with h | h
  · exact Or.inl h
  · obtain ⟨h1, h2⟩ := R
    cases st with
    | error e => exact absurd rfl (h e)
    | ok w =>
      by_cases hw : w.length < n
      · exact absurd (by simp [nxC, bytesC, hw]) (h 4)
      · right
        have hL := h2 w (w.take n) (w.drop n) rfl (by simp [bytesC, hw])
        rw [hL]; simp; omega
theorem data_of {k : Nat} {L : List UInt8} {st2 : Except Int (List UInt8)} (h1 : Rd (mostC 4 32768 3) st st' (k : Int)) (h2 : Rd (bytesC k) st' st2 L) : Rd dataC st st2 ((k : Int), L) := by
  have h := Rd.seq (C := mostC 4 32768 3) (D := fun n => bytesC n.toNat) (b := L) h1 h2
  exact h
def DataR (w0 w : World) (b : Nat) (T : TypeId) (p : Option Addr) (cap : Nat) (l : List UInt8) (rest : List Value) (st : Except Int (List UInt8)) (v : Value) (w' : World) : Prop :=
  ∃ x L, OwnB w' w.heap.size v L ∧ RdOut dataC w0 w b T p cap l rest st w' (x, L)
theorem fileData (I : RdI w0 w b T p cap l rest st) : CallP Tryz.prog 123 #[.pointer (some ⟨b, 0, none⟩)] w (DataR w0 w b T p cap l rest st) := by
  have hl := I.len
  refine call_den (args := [_]) Tryz.func123 rfl rfl (by simp [Tryz.ntmps123]) ?_
  simp [go_sem]
  refine CallP.mono (fileSmall4 (m := 32768) (e := 3) (by decide) I) ?_
  rintro v W ⟨x, rfl, h0, h1, u, st1, I1, R⟩
  have h1' : x < 4294967296 := h1
  obtain ⟨k, rfl⟩ := Int.eq_ofNat_of_zero_le h0
  have hw : IntKind.i64.wrap (k : Int) = k := wrap64_id (by omega) (by omega)
  obtain ⟨a, e, hc, hst⟩ := I1.cell
  cases st1 with
  | error z =>
    obtain ⟨rfl, hz⟩ := hst
    simp [go_sem, hw, hc, hz]
    exact ⟨k, [], nil_own _ _, u, .error e, I1, data_of R bytes_err⟩
  | ok r =>
    obtain ⟨rfl, n, rfl, hn, rfl⟩ := hst
    have hw1 : IntKind.i64.wrap ((l.length : Int) - n) = (l.length : Int) - n := wrap64_id (by omega) (by omega)
    obtain ⟨nk, hnk⟩ : ∃ nk, nk = n + k := ⟨_, rfl⟩
    have hw2 : IntKind.i64.wrap ((n : Int) + k) = (nk : Int) := by rw [wrap64_id (by omega) (by omega)]; omega
    simp [go_sem, hw, hc]
    refine draw_script [.pure 0, .pure 5, .pure 10, .still [1, 2, 3, 4, 6, 7, 8], .one 9, .one 11] (by kernel_rfl) (by kernel_rfl) (by kernel_rfl) ?_
    by_cases hs : l.length < n + k
    · have n1 : (l.length : Int) - n < k := by omega
      simp [go_sem, hc, hw1, n1]
      have u2 : Upd (fun x => x = b) W (W.drew.setB b (.cells (rdC (.slice p l.length cap) n 4 rest) T (0, 0))) := (Upd.refl _ _).drew.setB _ _ (fun _ => rfl)
      exact ⟨k, [], nil_own _ _, u.trans u2, .error 4, I1.set u2 (by rw [heap_setB, if_pos rfl, heap_drew, hc]; rfl) ⟨rfl, by decide⟩, data_of R (bytes_short hn hs)⟩
    · have n1 : ¬ (l.length : Int) - n < k := by omega
      simp [go_sem, hc, hw1, n1]
      refine draw_script [.pure 0, .pure 4, .pure 8, .pure 12, .pure 14, .pure 18, .still [1, 2, 3, 5, 6, 7, 9, 10, 11, 13, 15, 16, 17, 19], .one 20, .one 21, .pure 22] (by kernel_rfl) (by kernel_rfl) (by kernel_rfl) ?_
      have hcap : l.length ≤ cap := I.bytes.2
      have c1 : nk ≤ cap := by omega
      have c2 : n ≤ nk := by omega
      simp [go_sem, hc, hw2, c1, c2]
      have ud : Upd noB w0 W.drew.drew := I1.u.drew.drew
      have key := (I1.bytes.keep0 ud).cut (lo := n) (hi := nk) (m := nk) (by omega) (by omega) (Nat.le_refl _)
      have e1 : sliced p n nk nk 1 = Value.slice (if nk = n then p else Option.map (fun x => x.add n) p) (nk - n) (nk - n) := by
        unfold sliced; simp
      rw [e1] at key
      have e2 : (l.drop n).take (nk - n) = cutL l n k := by unfold cutL; congr 1; omega
      rw [e2] at key
      have hcl := cutL_len l n k (by omega)
      refine CallP.mono (clone_any key (by omega)) ?_
      rintro v W3 ⟨u3, own3⟩
      have hcW : W3.heap[b]? = some (.cells (rdC (.slice p l.length cap) n 0 rest) T (0, 0)) := u3.get hc (by simp [noB])
      have hu : Upd (fun x => x = b) W W3 := ((Upd.refl noB W).drew.drew.trans u3).mono (fun _ _ h => h.elim)
      simp [go_sem, hcW, hw2]
      have u4 : Upd (fun x => x = b) W (W3.setB b (.cells (rdC (.slice p l.length cap) (nk : Int) 0 rest) T (0, 0))) := hu.setB _ _ (fun _ => rfl)
      have R2 := bytes_full (l := l) (n := n) (k := k) (by omega)
      rw [← hnk] at R2
      have hbw := (Array.getElem?_eq_some_iff.1 hc).1
      refine ⟨k, cutL l n k, own_base (own_keep own3 ((Upd.refl (fun x => x = b) W3).setB _ _ (fun _ => rfl)) ?_) u.size, u.trans u4, .ok (l.drop nk), I1.set u4 (by rw [heap_setB, if_pos rfl, hcW]; rfl) ⟨rfl, nk, rfl, by omega, rfl⟩, data_of R R2⟩
      intro g hg hx
      have := (own3.lt g hg).1
      simp at this
      omega
end
end Go.Proofs.YtinfdomlpbikaaaGreatDoor
namespace Go.Proofs.YtinfdomlpbikaaaGreatDoor
open Go.Eng
set_option linter.unusedSimpArgs false
set_option linter.unusedVariables false
set_option maxRecDepth 100000
variable {w w0 : World}
@[go_sem high] theorem lit16 : (#[.int .u8 0, .int .u8 0, .int .u8 0, .int .u8 0, .int .u8 0, .int .u8 0, .int .u8 0, .int .u8 0, .int .u8 0, .int .u8 0, .int .u8 0, .int .u8 0, .int .u8 0, .int .u8 0, .int .u8 0, .int .u8 0] : Array Value) = ((zArr 16).1.map u8V).toArray := (rfl)
@[go_sem high] theorem lit32 : (#[.int .u8 0, .int .u8 0, .int .u8 0, .int .u8 0, .int .u8 0, .int .u8 0, .int .u8 0, .int .u8 0, .int .u8 0, .int .u8 0, .int .u8 0, .int .u8 0, .int .u8 0, .int .u8 0, .int .u8 0, .int .u8 0, .int .u8 0, .int .u8 0, .int .u8 0, .int .u8 0, .int .u8 0, .int .u8 0, .int .u8 0, .int .u8 0, .int .u8 0, .int .u8 0, .int .u8 0, .int .u8 0, .int .u8 0, .int .u8 0, .int .u8 0, .int .u8 0] : Array Value) = ((zArr 32).1.map u8V).toArray := (rfl)
@[go_sem high] theorem lit8 : (#[.int .u8 0, .int .u8 0, .int .u8 0, .int .u8 0, .int .u8 0, .int .u8 0, .int .u8 0, .int .u8 0] : Array Value) = ((zArr 8).1.map u8V).toArray := (rfl)
theorem cut_part {r a b c : List Value} (t : TypeId) (f : Nat × Nat) (hr : r = a ++ (b ++ c)) : cutIn (some (.cells r.toArray t f)) a.length b.length = some b := by
  subst hr
  rw [cutIn_some, if_pos (by simp)]
  simp
@[go_sem high] theorem ask_cut1 (a : AskV) (t : TypeId) (f : Nat × Nat) : cutIn (some (.cells a.cells t f)) 1 16 = some (a.guid.1.map u8V) := by
  have h := cut_part (r := a.row) (a := [Value.slice a.dialects.p a.dialects.n a.dialects.cap]) (b := a.guid.1.map u8V) (c := a.row.drop 17) t f (by
    simp [AskV.row, List.drop_append, a.guid.2])
  have h2 : cutIn (some (.cells a.row.toArray t f)) 1 16 = some (a.guid.1.map u8V) := by simpa [a.guid.2] using h
  exact h2
@[go_sem high] theorem ask_cut17 (a : AskV) (t : TypeId) (f : Nat × Nat) : cutIn (some (.cells a.cells t f)) 17 32 = some (a.proof.1.map u8V) := by
  have h := cut_part (r := a.row) (a := [Value.slice a.dialects.p a.dialects.n a.dialects.cap] ++ a.guid.1.map u8V) (b := a.proof.1.map u8V) (c := a.row.drop 49) t f (by
    simp [AskV.row, List.drop_append, a.guid.2, a.proof.2])
  have h2 : cutIn (some (.cells a.row.toArray t f)) 17 32 = some (a.proof.1.map u8V) := by simpa [a.guid.2, a.proof.2] using h
  exact h2
@[go_sem high] theorem say_cut2 (a : SayV) (t : TypeId) (f : Nat × Nat) : cutIn (some (.cells a.cells t f)) 2 8 = some (a.challenge.1.map u8V) := by
  have h := cut_part (r := a.row) (a := [.int .u16 a.dialect, .int .u64 a.size_]) (b := a.challenge.1.map u8V) (c := a.row.drop 10) t f (by
    simp [SayV.row, List.drop_append, a.challenge.2])
  have h2 : cutIn (some (.cells a.row.toArray t f)) 2 8 = some (a.challenge.1.map u8V) := by simpa [a.challenge.2] using h
  exact h2
theorem eqlA {n : Nat} {t : TypeId} (hu : Tryz.prog.underlying t = some (.array n 5)) (a b : Arr n) (w : World) : (binOp .eql t (.agg (a.1.map u8V).toArray) (.agg (b.1.map u8V).toArray)).run Tryz.prog w = .ok (.bool (a.1 == b.1)) w := by
  rw [run_eql_struct, eql_bytes (i := Tryz.t5) hu (by kernel_rfl) Tryz.underlying5 Tryz.isAgg5 (by kernel_rfl) 9998 a.1 b.1 a.2 b.2]
  rfl
@[go_sem high] theorem eqlA16 (a b : Arr 16) (w : World) : (binOp .eql 26 (.agg (a.1.map u8V).toArray) (.agg (b.1.map u8V).toArray)).run Tryz.prog w = .ok (.bool (a.1 == b.1)) w := eqlA Tryz.underlying26 a b w
@[go_sem high] theorem eqlA32 (a b : Arr 32) (w : World) : (binOp .eql 30 (.agg (a.1.map u8V).toArray) (.agg (b.1.map u8V).toArray)).run Tryz.prog w = .ok (.bool (a.1 == b.1)) w := eqlA Tryz.underlying30 a b w
@[go_sem high] theorem eqlA8 (a b : Arr 8) (w : World) : (binOp .eql 35 (.agg (a.1.map u8V).toArray) (.agg (b.1.map u8V).toArray)).run Tryz.prog w = .ok (.bool (a.1 == b.1)) w := eqlA Tryz.underlying35 a b w
theorem o8 : bits .or .u8 0 0 = 0 := by decide
theorem o16 : bits .or .u16 0 0 = 0 := by decide
theorem o32 : bits .or .u32 0 0 = 0 := by decide
theorem o64 : bits .or .u64 0 0 = 0 := by decide
theorem wr0 : IntKind.i64.wrap 0 = 0 := by decide
attribute [go_sem] o8 o16 o32 o64 wr0
set_option maxHeartbeats 2000000 in
theorem bare_zero (w : World) : CallP Tryz.prog 167 #[.agg zeroA.cells] w (fun r w' => r = .bool true ∧ Upd noB w w') := by
  refine call_den (args := [_]) Tryz.func167 rfl rfl (by simp [Tryz.ntmps167]) ?_
  simp [go_sem, zeroA]
  exact (Upd.refl _ _).alloc _
set_option maxHeartbeats 2000000 in
theorem none_zero (w : World) : CallP Tryz.prog 35 #[.agg zeroA.cells] w (fun r w' => r = .bool true ∧ Upd noB w w') := by
  refine call_den (args := [_]) Tryz.func35 rfl rfl (by simp [Tryz.ntmps35]) ?_
  simp [go_sem, zeroA]
  exact (Upd.refl _ _).alloc _
set_option maxHeartbeats 2000000 in
theorem silent_zero (w : World) : CallP Tryz.prog 36 #[.agg zeroS.cells] w (fun r w' => r = .bool true ∧ Upd noB w w') := by
  refine call_den (args := [_]) Tryz.func36 rfl rfl (by simp [Tryz.ntmps36]) ?_
  simp [go_sem, zeroS]
  exact (Upd.refl _ _).alloc _
/-! ### messages, built -/
theorem splice_of_puts {c cs d : Array Value} {t : TypeId} {o : Nat} (h : putsAt (some (.cells c t (0, 0))) o cs = some (.cells d t (0, 0))) : (c.toList.take o ++ cs.toList ++ c.toList.drop (o + cs.size)).toArray = d := by
  rw [putsAt_some] at h
  split at h
  · injection h with h; injection h
  · cases h
theorem fill_step {place : Nat → Option (Nat × Nat)} {cells : Array Value} {i : Nat} {v : Value} {rest : List (Nat × Value)} {off size : Nat} (hp : place i = some (off, size)) (hv : v.cells.size = size) (hle : off + size ≤ cells.size) :
    Instr.fill place cells ((i, v) :: rest) = Instr.fill place (cells.toList.take off ++ v.cells.toList ++ cells.toList.drop (off + v.cells.size)).toArray rest := by
  have h1 : (v.cells.size ≠ size || decide (off + v.cells.size > cells.size)) = false := by simp [hv]; omega
  simp only [Instr.fill, hp, h1, Bool.false_eq_true, if_false]
  congr 1
  have hf := fold_put v.cells.toList 0 off cells (by simp [hv]; omega)
  apply Array.toList_inj.1
  rw [← Array.foldl_toList, Array.toList_zipIdx, hf]
  simp
@[go_sem high] theorem zc_ask : Tryz.zeroCells34 = zeroA.cells := (rfl)
@[go_sem high] theorem zc_msg : Tryz.zeroCells41 = zeroM.cells := (rfl)
@[go_sem high] theorem zc_message : Tryz.zeroCells66 = zeroM.cells := (rfl)
def placeM : Nat → Option (Nat × Nat) := fun x => [((0 : Nat), (26 : Nat)), (26, 69), (95, 20)][x]?
theorem fillM0 (m : MsgV) (h : HeadV) (rest : List (Nat × Value)) : Instr.fill placeM m.cells ((0, .agg h.cells) :: rest) = Instr.fill placeM { m with head := h }.cells rest := by
  have e := fill_step (place := placeM) (cells := m.cells) (i := 0) (v := .agg h.cells) (rest := rest) (off := 0) (size := 26) rfl (by show h.cells.size = 26; exact h.size) (by rw [MsgV.size]; omega)
  rw [show (Value.agg h.cells).cells = h.cells from rfl, splice_of_puts (msg_put0 m h 41)] at e
  exact e
theorem fillM1 (m : MsgV) (a : AskV) (rest : List (Nat × Value)) : Instr.fill placeM m.cells ((1, .agg a.cells) :: rest) = Instr.fill placeM { m with ask := a }.cells rest := by
  have e := fill_step (place := placeM) (cells := m.cells) (i := 1) (v := .agg a.cells) (rest := rest) (off := 26) (size := 69) rfl (by show a.cells.size = 69; exact a.size) (by rw [MsgV.size]; omega)
  rw [show (Value.agg a.cells).cells = a.cells from rfl, splice_of_puts (msg_put1 m a 41)] at e
  exact e
theorem fillM2 (m : MsgV) (s : SayV) (rest : List (Nat × Value)) : Instr.fill placeM m.cells ((2, .agg s.cells) :: rest) = Instr.fill placeM { m with say := s }.cells rest := by
  have e := fill_step (place := placeM) (cells := m.cells) (i := 2) (v := .agg s.cells) (rest := rest) (off := 95) (size := 20) rfl (by show s.cells.size = 20; exact s.size) (by rw [MsgV.size]; omega)
  rw [show (Value.agg s.cells).cells = s.cells from rfl, splice_of_puts (msg_put2 m s 41)] at e
  exact e
theorem fillM_nil (m : MsgV) : Instr.fill placeM m.cells [] = some m.cells := (rfl)
theorem build1_msg (h : HeadV) (w : World) : (Instr.build 41 #[(0, .agg h.cells)]).run Tryz.prog w = .ok (.agg (MsgV.cells ⟨h, zeroA, zeroS⟩)) w := by
  have e := fillM0 zeroM h []
  rw [fillM_nil] at e
  simp [Instr.build, run_underlying Tryz.underlying41, Tryz.zeroValue41, Tryz.sizeOf28, Tryz.sizeOf34, Tryz.sizeOf39, Value.cells]
  rw [show Tryz.zeroCells41 = zeroM.cells from rfl]
  unfold placeM at e
  rw [e]
  rfl
theorem build3_msg (h : HeadV) (a : AskV) (s : SayV) (w : World) : (Instr.build 41 #[(0, .agg h.cells), (1, .agg a.cells), (2, .agg s.cells)]).run Tryz.prog w = .ok (.agg (MsgV.cells ⟨h, a, s⟩)) w := by
  have e := fillM0 zeroM h [(1, .agg a.cells), (2, .agg s.cells)]
  rw [fillM1, fillM2, fillM_nil] at e
  simp [Instr.build, run_underlying Tryz.underlying41, Tryz.zeroValue41, Tryz.sizeOf28, Tryz.sizeOf34, Tryz.sizeOf39, Value.cells]
  rw [show Tryz.zeroCells41 = zeroM.cells from rfl]
  unfold placeM at e
  rw [e]
  rfl
theorem build3_message (h : HeadV) (a : AskV) (s : SayV) (w : World) : (Instr.build 66 #[(0, .agg h.cells), (1, .agg a.cells), (2, .agg s.cells)]).run Tryz.prog w = .ok (.agg (MsgV.cells ⟨h, a, s⟩)) w := by
  have e := fillM0 zeroM h [(1, .agg a.cells), (2, .agg s.cells)]
  rw [fillM1, fillM2, fillM_nil] at e
  simp [Instr.build, run_underlying Tryz.underlying66, Tryz.zeroValue66, Tryz.sizeOf28, Tryz.sizeOf34, Tryz.sizeOf39, Value.cells]
  rw [show Tryz.zeroCells66 = zeroM.cells from rfl]
  unfold placeM at e
  rw [e]
  rfl
theorem build1_message (h : HeadV) (w : World) : (Instr.build 66 #[(0, .agg h.cells)]).run Tryz.prog w = .ok (.agg (MsgV.cells ⟨h, zeroA, zeroS⟩)) w := by
  have e := fillM0 zeroM h []
  rw [fillM_nil] at e
  simp [Instr.build, run_underlying Tryz.underlying66, Tryz.zeroValue66, Tryz.sizeOf28, Tryz.sizeOf34, Tryz.sizeOf39, Value.cells]
  rw [show Tryz.zeroCells66 = zeroM.cells from rfl]
  unfold placeM at e
  rw [e]
  rfl
section
variable {e : Operand → Value} {ty : TypeId} (k : Value → World → Prop)
def B1 (t : TypeId) (x : Value) (w : World) (k : Value → World → Prop) : Prop := ValK Tryz.prog (Instr.build t #[(0, x)]) w k
def B3 (t : TypeId) (x y z : Value) (w : World) (k : Value → World → Prop) : Prop := ValK Tryz.prog (Instr.build t #[(0, x), (1, y), (2, z)]) w k
theorem B1_msg (h : HeadV) : B1 41 (.agg h.cells) w k = k (.agg (MsgV.cells ⟨h, zeroA, zeroS⟩)) w := by
  unfold B1 ValK; rw [build1_msg]; rfl
theorem B1_message (h : HeadV) : B1 66 (.agg h.cells) w k = k (.agg (MsgV.cells ⟨h, zeroA, zeroS⟩)) w := by
  unfold B1 ValK; rw [build1_message]; rfl
theorem B3_msg (h : HeadV) (a : AskV) (s : SayV) : B3 41 (.agg h.cells) (.agg a.cells) (.agg s.cells) w k = k (.agg (MsgV.cells ⟨h, a, s⟩)) w := by
  unfold B3 ValK; rw [build3_msg]; rfl
theorem B3_message (h : HeadV) (a : AskV) (s : SayV) : B3 66 (.agg h.cells) (.agg a.cells) (.agg s.cells) w k = k (.agg (MsgV.cells ⟨h, a, s⟩)) w := by
  unfold B3 ValK; rw [build3_message]; rfl
theorem R_B1_msg (x : Operand) : RunO Tryz.prog (.build 41 #[(0, x)]) ty e w k = B1 41 (e x) w k := by rw [R_build]; unfold B1; simp only [List.map_toArray, List.map_cons, List.map_nil]
theorem R_B1_message (x : Operand) : RunO Tryz.prog (.build 66 #[(0, x)]) ty e w k = B1 66 (e x) w k := by rw [R_build]; unfold B1; simp only [List.map_toArray, List.map_cons, List.map_nil]
theorem R_B3_msg (x y z : Operand) : RunO Tryz.prog (.build 41 #[(0, x), (1, y), (2, z)]) ty e w k = B3 41 (e x) (e y) (e z) w k := by rw [R_build]; unfold B3; simp only [List.map_toArray, List.map_cons, List.map_nil]
theorem R_B3_message (x y z : Operand) : RunO Tryz.prog (.build 66 #[(0, x), (1, y), (2, z)]) ty e w k = B3 66 (e x) (e y) (e z) w k := by rw [R_build]; unfold B3; simp only [List.map_toArray, List.map_cons, List.map_nil]
end
attribute [go_sem high] R_B1_msg R_B1_message R_B3_msg R_B3_message
attribute [go_sem] B1_msg B1_message B3_msg B3_message
/-! ### an Echo -/
theorem talkKnown_echo (w : World) : CallP Tryz.prog 147 #[.int .u16 13] w (fun r w' => r = .bool true ∧ w' = w) := by
  refine call_den (args := [_]) Tryz.func147 rfl rfl (by simp [Tryz.ntmps147]) ?_
  simp [go_sem]
theorem equal_nil (w : World) : CallP Tryz.prog 166 #[.slice none 0 0, .slice none 0 0] w (fun r w' => r = .bool true ∧ w' = w) := by
  refine call_den (args := [_, _]) Tryz.func166 rfl rfl (by simp [Tryz.ntmps166]) ?_
  simp [go_sem]
  refine den_loop (fun _ ρ w' => ρ 12 = .int .i64 0 ∧ ρ 13 = .int .i64 0 ∧ w' = w) 0 ⟨by simp [go_sem], by simp [go_sem], rfl⟩ ?_
  rintro m ρ w' ⟨g12, g13, rfl⟩
  simp [go_sem, g12, g13]
set_option maxHeartbeats 2000000 in
theorem sameAsk_zero (w : World) : CallP Tryz.prog 148 #[.agg zeroA.cells, .agg zeroA.cells] w (fun r w' => r = .bool true ∧ Upd noB w w') := by
  refine call_den (args := [_, _]) Tryz.func148 rfl rfl (by simp [Tryz.ntmps148]) ?_
  simp [go_sem]
  refine CallP.mono (equal_nil _) ?_
  rintro r W ⟨rfl, hW⟩
  have hu : Upd noB w W := by rw [hW]; exact (by repeat (first | exact Upd.refl _ _ | refine Upd.alloc ?_ _ | refine Upd.drew ?_ | refine Upd.drewN ?_ _ | refine Upd.setB ?_ _ _ (fun h => absurd h (by omega))))
  have hb0 : W.heap[w.heap.size]? = some (.cells zeroA.cells 34 (0, 0)) := by rw [hW, heap_alloc, if_neg (by simp), heap_alloc, if_pos rfl]
  have hb1 : W.heap[w.heap.size + 1]? = some (.cells zeroA.cells 34 (0, 0)) := by rw [hW, heap_alloc, if_pos (by simp)]
  clear hW
  simp [go_sem, hb0, hb1]
  refine CallP.mono (bare_zero _) ?_
  rintro r W2 ⟨rfl, u2⟩
  have hb2 := u2.get hb1 (by simp [noB])
  simp [go_sem, hb2]
  refine CallP.mono (bare_zero _) ?_
  rintro r W3 ⟨rfl, u3⟩
  simp [go_sem]
  exact (hu.trans u2).trans u3
theorem make4 (k : Value → World → Prop) : K_makeSlice Tryz.prog 31 (.int .i64 4) (.int .i64 4) w k = k (.slice (some ⟨w.heap.size, 0, none⟩) 4 4) (w.alloc (.cells (([0, 0, 0, 0] : List UInt8).map u8V).toArray 5)) :=
  K_makeSlice_ok _ _ _ _ (slByte.makeB zByte 4 (by omega) .i64 .i64)
theorem own4 (w : World) : OwnB (w.alloc (.cells (([0, 0, 0, 0] : List UInt8).map u8V).toArray 5)) w.heap.size (.slice (some ⟨w.heap.size, 0, none⟩) 4 4) [0, 0, 0, 0] :=
  own_block (w := w.alloc (.cells (([0, 0, 0, 0] : List UInt8).map u8V).toArray 5)) (c := (([0, 0, 0, 0] : List UInt8).map u8V).toArray) (by rw [heap_alloc, if_pos rfl]) (Nat.le_refl _) rfl (by decide)
set_option maxHeartbeats 2000000 in
theorem putAsk_echo (w : World) : CallP Tryz.prog 92 #[.int .u16 13, .agg zeroA.cells] w (fun r w' => ∃ v, r = .tuple #[v, .int .i64 0] ∧ Upd noB w w' ∧ OwnB w' w.heap.size v [0, 0, 0, 0]) := by
  refine call_den (args := [_, _]) Tryz.func92 rfl rfl (by simp [Tryz.ntmps92]) ?_
  simp [go_sem]
  refine CallP.mono (talkKnown_echo _) ?_
  rintro r W ⟨rfl, hW⟩
  have hu : Upd noB w W := by rw [hW]; exact (by repeat (first | exact Upd.refl _ _ | refine Upd.alloc ?_ _ | refine Upd.drew ?_ | refine Upd.drewN ?_ _ | refine Upd.setB ?_ _ _ (fun h => absurd h (by omega))))
  have hb0 : W.heap[w.heap.size]? = some (.cells zeroA.cells 34 (0, 0)) := by rw [hW, heap_setB, if_neg (by omega), heap_alloc, if_neg (by simp), heap_alloc, if_pos rfl]
  have hb1 : W.heap[w.heap.size + 1]? = some (.cells zeroA.cells 34 (0, 0)) := by rw [hW, heap_setB, if_pos rfl, heap_alloc, if_pos (by simp)]; rfl
  clear hW
  simp [go_sem, hb0, hb1]
  refine CallP.mono (sameAsk_zero _) ?_
  rintro r W2 ⟨rfl, u2⟩
  simp [go_sem, make4]
  exact ⟨(hu.trans u2).alloc _, own_base (own4 W2) (by have := (hu.trans u2).size; exact this)⟩
theorem loadAt_cut {t : TypeId} {n b o : Nat} {cs : List Value} {W : World} (ha : (isAgg t).run Tryz.prog W = .ok true W) (hs : (Go.sizeOf t).run Tryz.prog W = .ok n W) (hb : cutIn (W.heap[b]?) o n = some cs) : (Instr.loadAt t (.pointer (some ⟨b, o, none⟩))).run Tryz.prog W = .ok (.agg cs.toArray) W := by
  obtain ⟨c, te, f, hb2, hle, rfl⟩ := cutIn_spec hb
  exact run_loadAgg ha hs b o hb2 hle
/-! ### a message that lies in a block -/
def MsgAt (W : World) (b : Nat) (m : MsgV) : Prop := W.heap[b]? = some (.cells m.cells 66 (0, 0))
theorem msgReply_any {b : Nat} {m : MsgV} (hm : MsgAt w b m) (hf : 0 ≤ m.head.flags ∧ m.head.flags < 4294967296) : CallP Tryz.prog 34 #[.pointer (some ⟨b, 0, none⟩)] w (fun r w' => r = .bool (decide (hasF m.head.flags 1)) ∧ w' = w) := by
  have a1 := and_1 hf.1 hf.2
  unfold MsgAt at hm
  refine call_den (args := [_]) Tryz.func34 rfl rfl (by simp [Tryz.ntmps34]) ?_
  by_cases h : hasF m.head.flags 1
  · simp [go_sem, hm, a1, h]
  · simp [go_sem, hm, a1, h]
theorem msgFault_any {b : Nat} {m : MsgV} (hm : MsgAt w b m) (hf : 0 ≤ m.head.flags ∧ m.head.flags < 4294967296) : CallP Tryz.prog 37 #[.pointer (some ⟨b, 0, none⟩)] w (fun r w' => r = .bool (decide (hasF m.head.flags 1) && decide (m.head.status ≠ 0)) ∧ w' = w) := by
  refine call_den (args := [_]) Tryz.func37 rfl rfl (by simp [Tryz.ntmps37]) ?_
  simp [go_sem]
  refine CallP.mono (msgReply_any hm hf) ?_
  rintro r W ⟨rfl, rfl⟩
  unfold MsgAt at hm
  by_cases h : hasF m.head.flags 1
  · simp [go_sem, hm, h]
    rfl
  · simp [go_sem, hm, h]
theorem by_talk (w : World) : CallP Tryz.prog 57 #[.int .u16 13] w (fun r w' => r = .agg #[.func (.func 92) #[] #[], .func (.func 93) #[] #[], .func (.func 94) #[] #[], .func (.func 95) #[] #[]] ∧ Upd noB w w') := by
  refine call_den (args := [_]) Tryz.func57 rfl rfl (by simp [Tryz.ntmps57]) ?_
  simp [go_sem]
  exact (by repeat (first | exact Upd.refl _ _ | refine Upd.alloc ?_ _ | refine Upd.drew ?_ | refine Upd.drewN ?_ _ | refine Upd.setB ?_ _ _ (fun h => absurd h (by omega))))
set_option maxHeartbeats 2000000 in
theorem body_fault {b : Nat} {m : MsgV} (hm : MsgAt w b m) (hf : 0 ≤ m.head.flags ∧ m.head.flags < 4294967296) (hc : m.head.command = 13) (hr : hasF m.head.flags 1) (hst : m.head.status ≠ 0) :
    CallP Tryz.prog 38 #[.pointer (some ⟨b, 0, none⟩)] w (fun r w' => ∃ v, r = .tuple #[v, .int .i64 0] ∧ Upd noB w w' ∧ OwnB w' w.heap.size v [0, 0, 0, 0]) := by
  have hm' := hm
  unfold MsgAt at hm'
  refine call_den (args := [_]) Tryz.func38 rfl rfl (by simp [Tryz.ntmps38]) ?_
  simp [go_sem, hm', hc]
  refine CallP.mono (by_talk _) ?_
  rintro r W ⟨rfl, u1⟩
  simp [go_sem]
  refine gen_call ?_
  intro W1 hW1
  have hu : Upd noB w W1 := by rw [hW1]; exact (u1.alloc _).setB _ _ (fun h => absurd h (by have := u1.size; omega))
  have hx : W1.heap[W.heap.size]? = some (.cells #[.func (.func 92) #[] #[], .func (.func 93) #[] #[], .func (.func 94) #[] #[], .func (.func 95) #[] #[]] 92 (0, 0)) := by
    rw [hW1, heap_setB, if_pos rfl, heap_alloc, if_pos rfl]; rfl
  obtain ⟨bx, hbx⟩ : ∃ bx, bx = W.heap.size := ⟨_, rfl⟩
  have hbw : w.heap.size ≤ bx := by rw [hbx]; exact u1.size
  rw [← hbx] at hx ⊢
  have hm1 : MsgAt W1 b m := hu.get hm (by simp [noB])
  clear hW1 u1 hbx
  refine CallP.mono (msgFault_any hm1 hf) ?_
  rintro r W2 ⟨rfl, rfl⟩
  simp [go_sem, hr, hst, make4]
  exact ⟨hu.alloc _, own_base (own4 _) hu.size⟩
set_option maxHeartbeats 2000000 in
theorem body_echo {b : Nat} {m : MsgV} (hm : MsgAt w b m) (hf : 0 ≤ m.head.flags ∧ m.head.flags < 4294967296) (hc : m.head.command = 13) (hr : ¬ hasF m.head.flags 1) (ha : m.ask = zeroA) :
    CallP Tryz.prog 38 #[.pointer (some ⟨b, 0, none⟩)] w (fun r w' => ∃ v, r = .tuple #[v, .int .i64 0] ∧ Upd noB w w' ∧ OwnB w' w.heap.size v [0, 0, 0, 0]) := by
  have hm' := hm
  unfold MsgAt at hm'
  refine call_den (args := [_]) Tryz.func38 rfl rfl (by simp [Tryz.ntmps38]) ?_
  simp [go_sem, hm', hc]
  refine CallP.mono (by_talk _) ?_
  rintro r W ⟨rfl, u1⟩
  simp [go_sem]
  refine gen_call ?_
  intro W1 hW1
  have hu : Upd noB w W1 := by rw [hW1]; exact (u1.alloc _).setB _ _ (fun h => absurd h (by have := u1.size; omega))
  have hx : W1.heap[W.heap.size]? = some (.cells #[.func (.func 92) #[] #[], .func (.func 93) #[] #[], .func (.func 94) #[] #[], .func (.func 95) #[] #[]] 92 (0, 0)) := by
    rw [hW1, heap_setB, if_pos rfl, heap_alloc, if_pos rfl]; rfl
  obtain ⟨bx, hbx⟩ : ∃ bx, bx = W.heap.size := ⟨_, rfl⟩
  have hbw : w.heap.size ≤ bx := by rw [hbx]; exact u1.size
  rw [← hbx] at hx ⊢
  have hm1 : MsgAt W1 b m := hu.get hm (by simp [noB])
  clear hW1 u1 hbx
  refine CallP.mono (msgFault_any hm1 hf) ?_
  rintro r W2 ⟨rfl, rfl⟩
  simp [go_sem, hr]
  refine CallP.mono (msgReply_any hm1 hf) ?_
  rintro r W3 ⟨rfl, rfl⟩
  simp [go_sem, hr]
  unfold MsgAt at hm1
  have hmd := ((Upd.refl noB W3).drew).get hm1 (by simp [noB])
  have la : (Instr.loadAt 34 (.pointer (some ⟨b, 26, none⟩))).run Tryz.prog W3.drew = .ok (.agg zeroA.cells) W3.drew := by
    have h := loadAt_cut (W := W3.drew) (b := b) (o := 26) (Tryz.isAgg34 _) (Tryz.sizeOf34 _) (by rw [hmd]; exact msg_cut1 m _ _)
    rw [ha] at h
    exact h
  refine draw_script [.pure 0, .pure 2, .pure 7, .still [1, 3, 4, 5, 6, 8, 9, 10], .one 11, .still [12, 13], .pure 14, .pure 15] (by kernel_rfl) (by kernel_rfl) (by kernel_rfl) ?_
  simp [go_sem, hx, hm1, hc, Q_load_fix (W := fun _ : Unit => W3.drew) (fun _ => la)]
  refine CallP.mono (putAsk_echo _) ?_
  rintro r W4 ⟨v, rfl, u4, own⟩
  simp [go_sem]
  exact ⟨hu.drew.trans u4, own_base own hu.size⟩
end Go.Proofs.YtinfdomlpbikaaaGreatDoor
namespace Go.Proofs.YtinfdomlpbikaaaGreatDoor
open Go.Eng Go.Lib
set_option linter.unusedSimpArgs false
set_option linter.unusedVariables false
set_option maxRecDepth 100000
variable {w w0 : World}
/-! ### the cells of what is asked and said -/
def AskV.bare (a : AskV) : AskV := { a with dialects := ⟨none, 0, 0⟩, data := ⟨none, 0, 0⟩, locks := ⟨none, 0, 0⟩ }
def SayV.bare (s : SayV) : SayV := { s with data := ⟨none, 0, 0⟩, entries := ⟨none, 0, 0⟩ }
def u16V (n : Int) : Value := .int .u16 n
def LockV.row (x : LockV) : List Value := [.int .i64 x.open_, .int .u64 x.at_, .int .u64 x.n, .int .u16 x.mode]
def EntV.row (x : EntV) : List Value := [.string x.name, .int .u8 x.kind, .int .i64 x.size]
theorem LockV.row_len (x : LockV) : x.row.length = 4 := (rfl)
theorem EntV.row_len (x : EntV) : x.row.length = 3 := (rfl)
abbrev OwnW (w : World) (base : Nat) (v : Value) (l : List Int) : Prop := w.ownsX base 22 1 v l.length (l.map u16V)
abbrev OwnL (w : World) (base : Nat) (v : Value) (l : List LockV) : Prop := w.ownsX base 110 4 v l.length (l.flatMap LockV.row)
abbrev OwnE (w : World) (base : Nat) (v : Value) (l : List EntV) : Prop := w.ownsX base 114 3 v l.length (l.flatMap EntV.row)
structure AskOwn (w : World) (base : Nat) (a : AskV) (A : AskS) : Prop where
  f : A.f = a.bare
  dia : OwnW w base (.slice a.dialects.p a.dialects.n a.dialects.cap) A.dia
  dat : OwnB w base (.slice a.data.p a.data.n a.data.cap) A.dat
  lok : OwnL w base (.slice a.locks.p a.locks.n a.locks.cap) A.lok
structure SayOwn (w : World) (base : Nat) (a : SayV) (A : SayS) : Prop where
  f : A.f = a.bare
  dat : OwnB w base (.slice a.data.p a.data.n a.data.cap) A.dat
  ent : OwnE w base (.slice a.entries.p a.entries.n a.entries.cap) A.ent
theorem nilW (w : World) (base : Nat) : OwnW w base (.slice none 0 0) [] := World.ownsX_nil _ _ _ _
theorem nilL (w : World) (base : Nat) : OwnL w base (.slice none 0 0) [] := World.ownsX_nil _ _ _ _
theorem nilE (w : World) (base : Nat) : OwnE w base (.slice none 0 0) [] := World.ownsX_nil _ _ _ _
def AskRes (w : World) (base : Nat) (r : Value) : Except Int AskS → Prop
  | .ok A => ∃ a : AskV, r = .tuple #[.agg a.cells, .int .i64 0] ∧ AskOwn w base a A
  | .error e => r = .tuple #[.agg zeroA.cells, .int .i64 e]
def SayRes (w : World) (base : Nat) (r : Value) : Except Int SayS → Prop
  | .ok A => ∃ a : SayV, r = .tuple #[.agg a.cells, .int .i64 0] ∧ SayOwn w base a A
  | .error e => r = .tuple #[.agg zeroS.cells, .int .i64 e]
/-! ### which commands -/
def known8 (c : Int) : Bool := decide (c ≤ 4 ∨ c = 13)
def known9 (c : Int) : Bool := decide (5 ≤ c ∧ c ≤ 10)
def known10 (c : Int) : Bool := decide (c = 12 ∨ c = 14 ∨ 16 ≤ c ∧ c ≤ 18)
/-! ### while it is got -/
structure GS (w W : World) (rb b ba : Nat) (T : TypeId) (p : Option Addr) (cap : Nat) (l : List UInt8) (st : Except Int (List UInt8)) (A : AskV) : Prop where
  rd : RdI w W b T p cap l [] st
  ask : W.heap[ba]? = some (.cells A.cells 34 (0, 0))
  res : W.heap[rb]? = some (.cells zeroA.cells 34 (0, 0))
  ne : ba ≠ b ∧ rb ≠ b ∧ rb ≠ ba ∧ w.heap.size ≤ ba ∧ w.heap.size ≤ rb
section
variable {W W' : World} {rb b ba : Nat} {T : TypeId} {p : Option Addr} {cap : Nat} {l : List UInt8} {st st' : Except Int (List UInt8)} {A : AskV}
theorem GS.read (g : GS w W rb b ba T p cap l st A) (u : Upd (fun x => x = b) W W') (I : RdI w W' b T p cap l [] st') : GS w W' rb b ba T p cap l st' A :=
  ⟨I, u.get g.ask g.ne.1, u.get g.res g.ne.2.1, g.ne⟩
theorem GS.keep (g : GS w W rb b ba T p cap l st A) (u : Upd noB W W') : GS w W' rb b ba T p cap l st A :=
  ⟨g.rd.keep u (fun h => h) (fun _ h => h.elim), u.get g.ask (fun h => h), u.get g.res (fun h => h), g.ne⟩
theorem GS.set (g : GS w W rb b ba T p cap l st A) (A' : AskV) (h : W' = W.setB ba (.cells A'.cells 34 (0, 0))) : GS w W' rb b ba T p cap l st A' := by
  subst h
  have u : Upd (fun x => x = ba) W (W.setB ba (.cells A'.cells 34 (0, 0))) := (Upd.refl _ _).setB _ _ (fun _ => rfl)
  exact ⟨g.rd.keep u (fun h => g.ne.1 h.symm) (fun i h => by subst h; exact g.ne.2.2.2.1), by rw [heap_setB, if_pos rfl, g.ask]; rfl, u.get g.res g.ne.2.2.1, g.ne⟩
theorem rdC_arr (s : Value) (a e : Int) : (#[s, .int .i64 a, .int .i64 e] : Array Value) = rdC s a e [] := (rfl)
theorem GS.start {W2 : World} (hb : BytesAt w (.slice p l.length cap) l) (hl : l.length ≤ 1099511627776) (hu : Upd noB w W) (h0 : W.heap[w.heap.size]? = some (.cells zeroA.cells 34 (0, 0)))
    (h : W2 = (W.alloc (.cells #[.slice p l.length cap, .int .i64 0, .int .i64 0] T)).alloc (.cells zeroA.cells 34)) : GS w W2 w.heap.size W.heap.size (W.heap.size + 1) T p cap l (.ok l) zeroA := by
  have hs := (Array.getElem?_eq_some_iff.1 h0).1
  subst h
  refine ⟨⟨(hu.alloc _).alloc _, hu.size, hb, hl, 0, 0, ?_, rfl, 0, rfl, Nat.zero_le _, rfl⟩, ?_, ?_, by omega, by omega, by omega, by omega, by omega⟩
  · rw [heap_alloc, if_neg (by simp), heap_alloc, if_pos rfl, rdC_arr]
  · rw [heap_alloc, if_pos (by simp)]
  · rw [heap_alloc, if_neg (by simp; omega), heap_alloc, if_neg (by omega), h0]
end
structure GZ (w W : World) (rb b ba : Nat) (T : TypeId) (p : Option Addr) (cap : Nat) (l : List UInt8) (st : Except Int (List UInt8)) (A : SayV) : Prop where
  rd : RdI w W b T p cap l [] st
  ask : W.heap[ba]? = some (.cells A.cells 39 (0, 0))
  res : W.heap[rb]? = some (.cells zeroS.cells 39 (0, 0))
  ne : ba ≠ b ∧ rb ≠ b ∧ rb ≠ ba ∧ w.heap.size ≤ ba ∧ w.heap.size ≤ rb
section
variable {W W' : World} {rb b ba : Nat} {T : TypeId} {p : Option Addr} {cap : Nat} {l : List UInt8} {st st' : Except Int (List UInt8)} {A : SayV}
theorem GZ.read (g : GZ w W rb b ba T p cap l st A) (u : Upd (fun x => x = b) W W') (I : RdI w W' b T p cap l [] st') : GZ w W' rb b ba T p cap l st' A :=
  ⟨I, u.get g.ask g.ne.1, u.get g.res g.ne.2.1, g.ne⟩
theorem GZ.keep (g : GZ w W rb b ba T p cap l st A) (u : Upd noB W W') : GZ w W' rb b ba T p cap l st A :=
  ⟨g.rd.keep u (fun h => h) (fun _ h => h.elim), u.get g.ask (fun h => h), u.get g.res (fun h => h), g.ne⟩
theorem GZ.set (g : GZ w W rb b ba T p cap l st A) (A' : SayV) (h : W' = W.setB ba (.cells A'.cells 39 (0, 0))) : GZ w W' rb b ba T p cap l st A' := by
  subst h
  have u : Upd (fun x => x = ba) W (W.setB ba (.cells A'.cells 39 (0, 0))) := (Upd.refl _ _).setB _ _ (fun _ => rfl)
  exact ⟨g.rd.keep u (fun h => g.ne.1 h.symm) (fun i h => by subst h; exact g.ne.2.2.2.1), by rw [heap_setB, if_pos rfl, g.ask]; rfl, u.get g.res g.ne.2.2.1, g.ne⟩
theorem GZ.start {W2 : World} (hb : BytesAt w (.slice p l.length cap) l) (hl : l.length ≤ 1099511627776) (hu : Upd noB w W) (h0 : W.heap[w.heap.size]? = some (.cells zeroS.cells 39 (0, 0)))
    (h : W2 = (W.alloc (.cells #[.slice p l.length cap, .int .i64 0, .int .i64 0] T)).alloc (.cells zeroS.cells 39)) : GZ w W2 w.heap.size W.heap.size (W.heap.size + 1) T p cap l (.ok l) zeroS := by
  have hs := (Array.getElem?_eq_some_iff.1 h0).1
  subst h
  refine ⟨⟨(hu.alloc _).alloc _, hu.size, hb, hl, 0, 0, ?_, rfl, 0, rfl, Nat.zero_le _, rfl⟩, ?_, ?_, by omega, by omega, by omega, by omega, by omega⟩
  · rw [heap_alloc, if_neg (by simp), heap_alloc, if_pos rfl, rdC_arr]
  · rw [heap_alloc, if_pos (by simp)]
  · rw [heap_alloc, if_neg (by simp; omega), heap_alloc, if_neg (by omega), h0]
end
theorem most_as {k : Nat} {m e x y : Int} {st st' : Except Int (List UInt8)} (R : Rd (mostC k m e) st st' x) (h : x ≤ m → y = x) : Rd (mostC k m e) st st' y := by
  refine ⟨R.1, ?_⟩
  intro l z r h1 h2
  have h3 := R.2 l z r h1 h2
  have h4 := most_get h2
  rw [h (by omega), h3]
theorem fileKnown_any (c : Int) (w : World) : CallP Tryz.prog 115 #[.int .u16 c] w (fun r w' => r = .bool (known9 c) ∧ w' = w) := by
  by_cases h5 : 5 ≤ c
  · by_cases h10 : c ≤ 10
    · refine call_den (args := [_]) Tryz.func115 rfl rfl (by simp [Tryz.ntmps115]) ?_
      simp [go_sem, h5, h10, known9]
    · refine call_den (args := [_]) Tryz.func115 rfl rfl (by simp [Tryz.ntmps115]) ?_
      simp [go_sem, h5, h10, known9]
  · refine call_den (args := [_]) Tryz.func115 rfl rfl (by simp [Tryz.ntmps115]) ?_
    simp [go_sem, h5, known9]
theorem infoKnown_any (c : Int) (w : World) : CallP Tryz.prog 130 #[.int .u16 c] w (fun r w' => r = .bool (known10 c) ∧ w' = w) := by
  by_cases h1 : c = 14
  · refine call_den (args := [_]) Tryz.func130 rfl rfl (by simp [Tryz.ntmps130]) ?_
    simp [go_sem, h1, known10]
  · by_cases h2 : c = 16
    · refine call_den (args := [_]) Tryz.func130 rfl rfl (by simp [Tryz.ntmps130]) ?_
      simp [go_sem, h1, h2, known10]
    · by_cases h3 : c = 17
      · refine call_den (args := [_]) Tryz.func130 rfl rfl (by simp [Tryz.ntmps130]) ?_
        simp [go_sem, h1, h2, h3, known10]
      · by_cases h4 : c = 18
        · refine call_den (args := [_]) Tryz.func130 rfl rfl (by simp [Tryz.ntmps130]) ?_
          simp [go_sem, h1, h2, h3, h4, known10]
        · have hx : (16 ≤ c ∧ c ≤ 18) = False := by apply eq_false; omega
          by_cases h5 : c = 12
          · refine call_den (args := [_]) Tryz.func130 rfl rfl (by simp [Tryz.ntmps130]) ?_
            simp [go_sem, h1, h2, h3, h4, h5, known10]
          · refine call_den (args := [_]) Tryz.func130 rfl rfl (by simp [Tryz.ntmps130]) ?_
            simp [go_sem, h1, h2, h3, h4, h5, known10, hx]
end Go.Proofs.YtinfdomlpbikaaaGreatDoor
