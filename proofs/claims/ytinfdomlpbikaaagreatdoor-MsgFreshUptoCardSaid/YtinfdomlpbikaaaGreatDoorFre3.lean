/-
  Formats of bytes, both ways: what is put is got, what is got is put. No program in sight.
  Heads: which may be, and their bytes.
  Heads: compared; which may be.
  Heads: their bytes.
  Heads: their bytes, of the program.
  Heads: read.
  Heads: read, by the program.
  The head of a Reply.
  What is asked and what is said: their cells (printed by structgen.py).
  The formats of what is asked and of what is said. No program in sight.
-/
import Derived.Test.YtinfdomlpbikaaaGreatDoorFre2
namespace Go.Proofs.YtinfdomlpbikaaaGreatDoor
open Go Go.Eng
set_option linter.unusedSimpArgs false
set_option linter.unusedVariables false
--BEGIN
structure Codec (α : Type) where
  put : α → Except Int (List UInt8)
  get : List UInt8 → Except Int (α × List UInt8)
  back : ∀ a b r, put a = .ok b → get (b ++ r) = .ok (a, r)
  once : ∀ l a r, get l = .ok (a, r) → ∃ b, put a = .ok b ∧ l = b ++ r
/-- a number of k bytes -/
def numC (k : Nat) : Codec Int where
  put x := if 0 ≤ x ∧ x < ((256 ^ k : Nat) : Int) then .ok (leB x.toNat k) else .error 2
  get l := if l.length < k then .error 4 else .ok ((numB (l.take k) : Int), l.drop k)
  back a b r h := by
    split at h
    · injection h with h
      subst h
      rename_i hx
      have hlen := leB_len k a.toNat
      rw [if_neg (by rw [List.length_append, hlen]; omega), List.take_left' hlen, List.drop_left' hlen, numB_leB]
      have : a.toNat % 256 ^ k = a.toNat := Nat.mod_eq_of_lt (by omega)
      rw [this]
      congr 2
      omega
    · cases h
  once l a r h := by
    split at h
    · cases h
    · rename_i hl
      injection h with h
      injection h with h1 h2
      subst h1 h2
      have hlen : (l.take k).length = k := by simp; omega
      have hlt := numB_lt (l.take k)
      rw [hlen] at hlt
      refine ⟨l.take k, ?_, by simp⟩
      rw [if_pos ⟨by omega, by omega⟩]
      congr 1
      have := leB_numB (l.take k)
      rw [hlen] at this
      simpa using this
/-- what may be -/
def chkC {α : Type} (C : Codec α) (p : α → Bool) (e : Int) : Codec α where
  put x := if p x then C.put x else .error 2
  get l := match C.get l with
    | .ok (x, r) => if p x then .ok (x, r) else .error e
    | .error e => .error e
  back a b r h := by
    split at h
    · rename_i hp
      rw [C.back a b r h]
      simp [hp]
    · cases h
  once l a r h := by
    split at h
    · rename_i x r' hg
      split at h
      · rename_i hp
        injection h with h
        injection h with h1 h2
        subst h1 h2
        obtain ⟨b, h1, h2⟩ := C.once l _ _ hg
        exact ⟨b, by rw [if_pos hp]; exact h1, h2⟩
      · cases h
    · cases h
/-- one behind the other -/
def seqC {α β : Type} (C : Codec α) (D : α → Codec β) : Codec (α × β) where
  put x := match C.put x.1 with
    | .error e => .error e
    | .ok b => match (D x.1).put x.2 with
      | .error e => .error e
      | .ok c => .ok (b ++ c)
  get l := match C.get l with
    | .error e => .error e
    | .ok (x, r) => match (D x).get r with
      | .error e => .error e
      | .ok (y, r') => .ok ((x, y), r')
  back a b r h := by
    obtain ⟨x, y⟩ := a
    simp only at h
    split at h
    · cases h
    · rename_i b1 h1
      split at h
      · cases h
      · rename_i b2 h2
        injection h with h
        subst h
        rw [List.append_assoc, C.back x b1 _ h1]
        simp only
        rw [(D x).back y b2 r h2]
  once l a r h := by
    split at h
    · cases h
    · rename_i x r1 h1
      split at h
      · cases h
      · rename_i y r2 h2
        injection h with h
        injection h with h3 h4
        subst h3 h4
        obtain ⟨b1, p1, e1⟩ := C.once _ _ _ h1
        obtain ⟨b2, p2, e2⟩ := (D x).once _ _ _ h2
        refine ⟨b1 ++ b2, ?_, by rw [e1, e2, List.append_assoc]⟩
        simp only [p1, p2]
/-- a list of so many -/
def listC {α : Type} (C : Codec α) : Nat → Codec (List α)
  | 0 => {
      put := fun l => match l with
        | [] => .ok []
        | _ :: _ => .error 2
      get := fun l => .ok ([], l)
      back := by
        intro a b r h
        cases a with
        | nil => injection h with h; subst h; rfl
        | cons => cases h
      once := by
        intro l a r h
        injection h with h
        injection h with h1 h2
        subst h1 h2
        exact ⟨[], rfl, rfl⟩ }
  | n + 1 => {
      put := fun l => match l with
        | [] => .error 2
        | x :: l => (seqC C fun _ => listC C n).put (x, l)
      get := fun l => match (seqC C fun _ => listC C n).get l with
        | .error e => .error e
        | .ok ((x, l), r) => .ok (x :: l, r)
      back := by
        intro a b r h
        cases a with
        | nil => cases h
        | cons x l => rw [(seqC C fun _ => listC C n).back _ _ r h]
      once := by
        intro l a r h
        split at h
        · cases h
        · rename_i x l' r' hg
          injection h with h
          injection h with h1 h2
          subst h1 h2
          exact (seqC C fun _ => listC C n).once _ _ _ hg }
/-- by another name -/
def isoC {α β : Type} (C : Codec α) (f : α → β) (g : β → α) (hf : ∀ b, f (g b) = b) (hg : ∀ l a r, C.get l = .ok (a, r) → g (f a) = a) : Codec β where
  put b := C.put (g b)
  get l := match C.get l with
    | .error e => .error e
    | .ok (a, r) => .ok (f a, r)
  back a b r h := by rw [C.back _ _ r h]; simp only [hf]
  once l a r h := by
    split at h
    · cases h
    · rename_i x r' hx
      injection h with h
      injection h with h1 h2
      subst h1 h2
      rw [hg _ _ _ hx]
      exact C.once _ _ _ hx
def zeroC (k : Nat) : Codec Unit := isoC (chkC (numC k) (fun x => decide (x = 0)) 5) (fun _ => ()) (fun _ => 0) (fun _ => rfl) (by
  intro l a r h
  simp only [chkC] at h
  split at h
  · split at h
    · rename_i x r' hg hp
      injection h with h
      injection h with h1 h2
      subst h1
      have hp2 : x = 0 := by simpa using hp
      exact hp2.symm
    · cases h
  · cases h)
def mostC (k : Nat) (m e : Int) : Codec Int := chkC (numC k) (fun x => decide (x ≤ m)) e
def boolC (k : Nat) : Codec Bool := isoC (mostC k 1 5) (fun x => decide (x = 1)) (fun b => if b then 1 else 0) (by intro b; cases b <;> rfl) (by
  intro l a r h
  simp only [mostC, chkC, numC] at h
  split at h
  · split at h
    · rename_i x r' hg hp
      injection h with h
      injection h with h1 h2
      subst h1
      split at hg
      · cases hg
      · injection hg with hg
        injection hg with h3 h4
        have hp' : x ≤ 1 := by simpa using hp
        by_cases hx : x = 1
        · simp [hx]
        · have : x = 0 := by omega
          simp [this]
    · cases h
  · cases h)
/-- so many bytes -/
def bytesC (n : Nat) : Codec (List UInt8) where
  put l := if l.length = n then .ok l else .error 2
  get l := if l.length < n then .error 4 else .ok (l.take n, l.drop n)
  back a b r h := by
    split at h
    · rename_i hn
      injection h with h
      subst h
      rw [if_neg (by rw [List.length_append]; omega), List.take_left' hn, List.drop_left' hn]
    · cases h
  once l a r h := by
    split at h
    · cases h
    · injection h with h
      injection h with h1 h2
      subst h1 h2
      refine ⟨l.take n, ?_, by simp⟩
      rw [if_pos (by simp; omega)]
/-- nothing at all -/
def nilC : Codec Unit where
  put _ := .ok []
  get l := .ok ((), l)
  back a b r h := by injection h with h; subst h; rfl
  once l a r h := by
    injection h with h
    injection h with h1 h2
    subst h2
    exact ⟨[], rfl, rfl⟩
/-! ### a reader whose first error stays -/
def nxC {α : Type} (C : Codec α) : Except Int (List UInt8) → Except Int (List UInt8)
  | .error e => .error e
  | .ok l => match C.get l with
    | .error e => .error e
    | .ok (_, r) => .ok r
def Rd {α : Type} (C : Codec α) (st st' : Except Int (List UInt8)) (v : α) : Prop :=
  st' = nxC C st ∧ ∀ l x r, st = .ok l → C.get l = .ok (x, r) → v = x
section
variable {α β : Type} {C : Codec α} {st st1 st2 : Except Int (List UInt8)}
theorem Rd.err {e : Int} {v : α} (h : Rd C (.error e) st1 v) : st1 = .error e := h.1
theorem Rd.seq {D : α → Codec β} {a : α} {b : β} (h1 : Rd C st st1 a) (h2 : Rd (D a) st1 st2 b) : Rd (seqC C D) st st2 (a, b) := by
  obtain ⟨e1, v1⟩ := h1
  obtain ⟨e2, v2⟩ := h2
  cases st with
  | error e =>
    simp only [nxC] at e1
    subst e1
    exact ⟨e2, by intro l x r h; cases h⟩
  | ok l =>
    simp only [nxC] at e1
    cases hg : C.get l with
    | error e =>
      rw [hg] at e1
      simp only at e1
      subst e1
      refine ⟨by rw [e2]; simp [nxC, seqC, hg], ?_⟩
      intro l' x r h h'
      injection h with h
      subst h
      simp [seqC, hg] at h'
    | ok y =>
      obtain ⟨x, r⟩ := y
      rw [hg] at e1
      simp only at e1
      subst e1
      have hx := v1 l x r rfl hg
      subst hx
      cases hd : (D a).get r with
      | error e =>
        refine ⟨by rw [e2]; simp [nxC, seqC, hg, hd], ?_⟩
        intro l' x r' h h'
        injection h with h
        subst h
        simp [seqC, hg, hd] at h'
      | ok z =>
        obtain ⟨y, r'⟩ := z
        refine ⟨by rw [e2]; simp [nxC, seqC, hg, hd], ?_⟩
        intro l' x' r'' h h'
        injection h with h
        subst h
        simp [seqC, hg, hd] at h'
        have := v2 r y r' rfl hd
        rw [← h'.1, this]
theorem Rd.nil : Rd nilC st st () := ⟨by cases st <;> rfl, fun _ _ _ _ _ => rfl⟩
theorem Rd.iso {f : α → β} {g : β → α} {hf : ∀ b, f (g b) = b} {hg : ∀ l a r, C.get l = .ok (a, r) → g (f a) = a} {a : α} (h : Rd C st st1 a) : Rd (isoC C f g hf hg) st st1 (f a) := by
  obtain ⟨e1, v1⟩ := h
  cases st with
  | error e => exact ⟨e1, by intro l x r h; cases h⟩
  | ok l =>
    simp only [nxC] at e1
    cases hgt : C.get l with
    | error e =>
      rw [hgt] at e1
      refine ⟨by rw [e1]; simp [nxC, isoC, hgt], ?_⟩
      intro l' x r h h'
      injection h with h
      subst h
      simp [isoC, hgt] at h'
    | ok y =>
      obtain ⟨x, r⟩ := y
      rw [hgt] at e1
      have hx := v1 l x r rfl hgt
      subst hx
      refine ⟨by rw [e1]; simp [nxC, isoC, hgt], ?_⟩
      intro l' x r' h h'
      injection h with h
      subst h
      simp [isoC, hgt] at h'
      exact h'.1
/-- a check behind a number -/
def chkSt {α : Type} (p : α → Bool) (e : Int) (v : α) : Except Int (List UInt8) → Except Int (List UInt8)
  | .error e => .error e
  | .ok l => if p v then .ok l else .error e
theorem Rd.chk {p : α → Bool} {e : Int} {a b : α} (h : Rd C st st1 a) (hb : p a = true → b = a) (h2 : st2 = chkSt p e a st1) : Rd (chkC C p e) st st2 b := by
  obtain ⟨e1, v1⟩ := h
  subst h2
  cases st with
  | error e =>
    simp only [nxC] at e1
    subst e1
    exact ⟨rfl, by intro l x r h; cases h⟩
  | ok l =>
    simp only [nxC] at e1
    cases hgt : C.get l with
    | error e =>
      rw [hgt] at e1
      subst e1
      refine ⟨by simp [nxC, chkC, hgt, chkSt], ?_⟩
      intro l' x r h h'
      injection h with h
      subst h
      simp [chkC, hgt] at h'
    | ok y =>
      obtain ⟨x, r⟩ := y
      rw [hgt] at e1
      have hx := v1 l x r rfl hgt
      subst hx
      subst e1
      by_cases hp : p a = true
      · refine ⟨by simp [nxC, chkC, hgt, chkSt, hp], ?_⟩
        intro l' x r' h h'
        injection h with h
        subst h
        simp [chkC, hgt, hp] at h'
        rw [hb hp, h'.1]
      · refine ⟨by simp [nxC, chkC, hgt, chkSt, hp], ?_⟩
        intro l' x r' h h'
        injection h with h
        subst h
        simp [chkC, hgt, hp] at h'
theorem Rd.list_nil : Rd (listC C 0) st st [] := ⟨by cases st <;> rfl, by intro l x r h h'; injection h' with h'; injection h' with h1 _⟩
theorem Rd.list_cons {n : Nat} {a : α} {l : List α} (h1 : Rd C st st1 a) (h2 : Rd (listC C n) st1 st2 l) : Rd (listC C (n + 1)) st st2 (a :: l) := by
  obtain ⟨e, v⟩ := Rd.seq (D := fun _ => listC C n) h1 h2
  cases st with
  | error e => exact ⟨e, by intro l x r h; cases h⟩
  | ok w =>
    simp only [nxC] at e
    cases hg : (seqC C fun _ => listC C n).get w with
    | error e' =>
      rw [hg] at e
      refine ⟨by rw [e]; simp [nxC, listC, hg], ?_⟩
      intro l' x r h h'
      injection h with h
      subst h
      simp [listC, hg] at h'
    | ok y =>
      obtain ⟨⟨x, xs⟩, r⟩ := y
      rw [hg] at e
      refine ⟨by rw [e]; simp [nxC, listC, hg], ?_⟩
      intro l' x' r' h h'
      injection h with h
      subst h
      have hv := v w _ _ rfl hg
      injection hv with hv1 hv2
      simp only [listC, hg] at h'
      injection h' with h'
      injection h' with h1 h2
      rw [← h1, hv1, hv2]
theorem Rd.list_err {n : Nat} {e : Int} {l : List α} : Rd (listC C n) (.error e) (.error e) l := ⟨rfl, by intro l x r h; cases h⟩
/-- a list that is being read: what was read, and what the rest would make of it -/
def RdL (C : Codec α) (n i : Nat) (st0 st : Except Int (List UInt8)) (L : List α) : Prop := ∀ st' l', Rd (listC C (n - i)) st st' l' → Rd (listC C n) st0 st' (L ++ l')
theorem RdL.start {n : Nat} : RdL C n 0 st st [] := fun st' l' h => h
theorem RdL.step {n i : Nat} {st0 : Except Int (List UInt8)} {L : List α} {a : α} (h : RdL C n i st0 st L) (hi : i < n) (h1 : Rd C st st1 a) : RdL C n (i + 1) st0 st1 (L ++ [a]) := by
  intro st' l' h2
  rw [List.append_assoc]
  refine h st' (a :: l') ?_
  have e : n - i = (n - (i + 1)) + 1 := by omega
  rw [e]
  exact Rd.list_cons h1 h2
theorem RdL.done {n : Nat} {st0 : Except Int (List UInt8)} {L : List α} (h : RdL C n n st0 st L) : Rd (listC C n) st0 st L := by
  have := h st [] (by rw [Nat.sub_self]; exact Rd.list_nil)
  simpa using this
theorem RdL.err {n i : Nat} {st0 : Except Int (List UInt8)} {L : List α} {e : Int} (h : RdL C n i st0 (.error e) L) : Rd (listC C n) st0 (.error e) L := by
  have := h (.error e) [] Rd.list_err
  simpa using this
end
/-- the end of a reading: 0, or the error -/
def finE : Except Int (List UInt8) → Int
  | .error e => e
  | .ok [] => 0
  | .ok (_ :: _) => 5
/-! ### formats of what is asked and said -/
structure Fmt (S : Type) where
  X : Type
  C : Codec X
  mkS : X → S
  unS : S → X
  unS_mkS : ∀ l x r, C.get l = .ok (x, r) → unS (mkS x) = x
  pre : S → Int
  pre_mkS : ∀ l x r, C.get l = .ok (x, r) → pre (mkS x) = 0
section
variable {S : Type} (F : Fmt S)
open Classical in
noncomputable def Fmt.put (s : S) : Except Int (List UInt8) :=
  if F.mkS (F.unS s) = s then (if F.pre s = 0 then F.C.put (F.unS s) else .error (F.pre s)) else .error 2
def Fmt.get (l : List UInt8) : Except Int S := match F.C.get l with
  | .error e => .error e
  | .ok (x, []) => .ok (F.mkS x)
  | .ok (_, _ :: _) => .error 5
theorem Fmt.back {s : S} {b : List UInt8} (h : F.put s = .ok b) : F.get b = .ok s := by
  unfold Fmt.put at h
  split at h
  · rename_i hm
    split at h
    · have := F.C.back _ _ [] h
      rw [List.append_nil] at this
      unfold Fmt.get
      rw [this]
      simp only [hm]
    · cases h
  · cases h
theorem Fmt.more {s : S} {b : List UInt8} (h : F.put s = .ok b) (c : UInt8) (r : List UInt8) : F.get (b ++ c :: r) = .error 5 := by
  unfold Fmt.put at h
  split at h
  · split at h
    · have := F.C.back _ _ (c :: r) h
      unfold Fmt.get
      rw [this]
    · cases h
  · cases h
theorem Fmt.once {s : S} {l : List UInt8} (h : F.get l = .ok s) : F.put s = .ok l := by
  unfold Fmt.get at h
  split at h
  · cases h
  · rename_i x hg
    injection h with h
    subst h
    obtain ⟨b, h1, h2⟩ := F.C.once _ _ _ hg
    rw [List.append_nil] at h2
    subst h2
    unfold Fmt.put
    rw [F.unS_mkS _ _ _ hg, if_pos rfl, F.pre_mkS _ _ _ hg, if_pos rfl]
    exact h1
  · cases h
theorem Fmt.of_rd {l : List UInt8} {st : Except Int (List UInt8)} {v : F.X} (h : Rd F.C (.ok l) st v) (he : ∀ e, st = .error e → e ≠ 0) : F.get l = if finE st = 0 then .ok (F.mkS v) else .error (finE st) := by
  obtain ⟨h1, h2⟩ := h
  unfold Fmt.get
  simp only [nxC] at h1
  cases hg : F.C.get l with
  | error e =>
    rw [hg] at h1
    subst h1
    have := he e rfl
    simp [finE, this]
  | ok x =>
    obtain ⟨x, r⟩ := x
    rw [hg] at h1
    subst h1
    have hv := h2 l x r rfl hg
    subst hv
    cases r with
    | nil => simp [finE]
    | cons => simp [finE]
end
--END
end Go.Proofs.YtinfdomlpbikaaaGreatDoor
namespace Go.Proofs.YtinfdomlpbikaaaGreatDoor
open Go.Eng
set_option linter.unusedSimpArgs false
set_option linter.unusedVariables false
set_option maxRecDepth 100000
variable {w w0 : World}
end Go.Proofs.YtinfdomlpbikaaaGreatDoor
namespace Go.Proofs.YtinfdomlpbikaaaGreatDoor
open Go.Eng
set_option linter.unusedSimpArgs false
set_option linter.unusedVariables false
set_option maxRecDepth 100000
variable {w w0 : World}
def eqH (g h : HeadV) : Bool :=
  g.charge == h.charge && (g.status == h.status && (g.command == h.command && (g.credits == h.credits && (g.flags == h.flags && (g.next == h.next && (g.id == h.id && (g.async == h.async && (g.tree == h.tree && (g.session == h.session && g.sign.1 == h.sign.1)))))))))
theorem eqH_iff (g h : HeadV) : eqH g h = true ↔ g = h := by
  cases g; cases h
  simp [eqH]
  intros
  exact Subtype.ext_iff.symm
@[go_sem] theorem head_sign (h : HeadV) : h.cells.extract 10 26 = (h.sign.1.map u8V).toArray := by
  have e : h.row.drop 10 = h.sign.1.map u8V := rfl
  apply Array.toList_inj.1
  simp [HeadV.cells, e, List.take_of_length_le, h.sign.2]
@[go_sem] theorem eql_arr16 (a b : Arr 16) (w : World) : (Op.equalIn 9999 26 (.agg (a.1.map u8V).toArray) (.agg (b.1.map u8V).toArray)).run Tryz.prog w = .ok (a.1 == b.1) w :=
  eql_bytes (i := Tryz.t5) Tryz.underlying26 (by kernel_rfl) Tryz.underlying5 Tryz.isAgg5 (by kernel_rfl) 9997 a.1 b.1 a.2 b.2
@[go_sem high] theorem eql_head (g h : HeadV) (w : World) : (binOp .eql 28 (.agg g.cells) (.agg h.cells)).run Tryz.prog w = .ok (.bool (eqH g h)) w := by
  rw [run_eql_struct]
  simp [go_sem]
  unfold eqH
  by_cases h1 : g.charge = h.charge <;> by_cases h2 : g.status = h.status <;> simp [h1, h2]
  by_cases h3 : g.command = h.command <;> by_cases h4 : g.credits = h.credits <;> simp [h3, h4]
  by_cases h5 : g.flags = h.flags <;> by_cases h6 : g.next = h.next <;> simp [h5, h6]
  by_cases h7 : g.id = h.id <;> by_cases h8 : g.async = h.async <;> simp [h7, h8]
  by_cases h9 : g.tree = h.tree <;> by_cases h10 : g.session = h.session <;> simp [h9, h10]
  cases hs : (g.sign.1 == h.sign.1) <;> simp <;> simpa using hs
/-! ### may -/
def mayL (h : HeadV) : Bool := knownL h.command && (decide (h.flags < 16) && (if hasF h.flags 2 then decide (h.tree = 0) else decide (h.async = 0)))
/-! ### bits -/
theorem and32 (a b : Nat) (ha : a < 4294967296) (hb : b < 4294967296) : bits .and .u32 (a : Int) (b : Int) = ((a &&& b : Nat) : Int) := by
  have hx : a &&& b < 2 ^ 32 := Nat.and_lt_two_pow _ (by omega)
  have h1 : (BitVec.ofInt 32 (a : Int)).toNat = a := by
    rw [BitVec.ofInt_natCast, BitVec.toNat_ofNat]; exact Nat.mod_eq_of_lt (by omega)
  have h2 : (BitVec.ofInt 32 (b : Int)).toNat = b := by
    rw [BitVec.ofInt_natCast, BitVec.toNat_ofNat]; exact Nat.mod_eq_of_lt (by omega)
  show IntKind.u32.wrap ((BitVec.ofInt 32 (a : Int) &&& BitVec.ofInt 32 (b : Int)).toNat : Int) = _
  rw [BitVec.toNat_and, h1, h2, wrap32 (by omega) (by omega)]
theorem and_15 {f : Int} (h0 : 0 ≤ f) (h1 : f < 4294967296) : bits .and .u32 f 15 = f % 16 := by
  obtain ⟨n, rfl⟩ := Int.eq_ofNat_of_zero_le h0
  have e : n &&& 15 = n % 16 := Nat.and_two_pow_sub_one_eq_mod n 4
  exact (and32 n 15 (by omega) (by omega)).trans (by rw [e]; omega)
theorem nat_and_pow (n i : Nat) : n &&& 2 ^ i = if n.testBit i then 2 ^ i else 0 := by
  apply Nat.eq_of_testBit_eq
  intro j
  rw [Nat.testBit_and, Nat.testBit_two_pow]
  by_cases h : i = j
  · subst h
    cases hb : n.testBit i <;> simp [Nat.testBit_two_pow]
  · cases hb : n.testBit i <;> simp [h, Nat.testBit_two_pow]
theorem and_pow {f : Int} (h0 : 0 ≤ f) (h1 : f < 4294967296) (i : Nat) (hi : i < 32) : bits .and .u32 f ((2 ^ i : Nat) : Int) = if hasF f ((2 ^ i : Nat) : Int) then ((2 ^ i : Nat) : Int) else 0 := by
  obtain ⟨n, rfl⟩ := Int.eq_ofNat_of_zero_le h0
  have hp : 2 ^ i < 2 ^ 32 := Nat.pow_lt_pow_right (by decide) hi
  rw [and32 n (2 ^ i) (by omega) (by omega), nat_and_pow, Nat.testBit_eq_decide_div_mod_eq]
  have e : hasF (n : Int) ((2 ^ i : Nat) : Int) ↔ n / 2 ^ i % 2 = 1 := by
    unfold hasF
    rw [← Int.natCast_ediv]
    omega
  by_cases h : n / 2 ^ i % 2 = 1
  · rw [if_pos (e.2 h)]
    simp [h]
  · rw [if_neg (fun g => h (e.1 g))]
    simp [h]
theorem and_1 {f : Int} (h0 : 0 ≤ f) (h1 : f < 4294967296) : bits .and .u32 f 1 = if hasF f 1 then 1 else 0 := and_pow h0 h1 0 (by decide)
theorem and_2 {f : Int} (h0 : 0 ≤ f) (h1 : f < 4294967296) : bits .and .u32 f 2 = if hasF f 2 then 2 else 0 := and_pow h0 h1 1 (by decide)
theorem and_4 {f : Int} (h0 : 0 ≤ f) (h1 : f < 4294967296) : bits .and .u32 f 4 = if hasF f 4 then 4 else 0 := and_pow h0 h1 2 (by decide)
theorem may_t (h : HeadV) (ok : h.ok) (hf : hasF h.flags 2) (hk : knownL h.command = true) : eqH { h with tree := 0, flags := h.flags % 16 } h = mayL h := by
  have := ok.flags
  unfold mayL
  rw [hk, if_pos hf, Bool.eq_iff_iff]
  simp [eqH]
  omega
theorem may_f (h : HeadV) (ok : h.ok) (hf : ¬ hasF h.flags 2) (hk : knownL h.command = true) : eqH { h with async := 0, flags := h.flags % 16 } h = mayL h := by
  have := ok.flags
  unfold mayL
  rw [hk, if_neg hf, Bool.eq_iff_iff]
  simp [eqH]
  omega
set_option maxHeartbeats 1000000 in
theorem headMay_any (h : HeadV) (ok : h.ok) (w : World) : CallP Tryz.prog 54 #[.agg h.cells] w (fun r w' => r = .bool (mayL h) ∧ Upd noB w w') := by
  have hsz := h.size
  have a15 := and_15 ok.flags.1 ok.flags.2
  have a2 := and_2 ok.flags.1 ok.flags.2
  obtain ⟨wb, hwb⟩ : ∃ wb, wb = w.alloc (.cells h.cells 28) := ⟨_, rfl⟩
  have hb : wb.heap[w.heap.size]? = some (.cells h.cells 28 (0, 0)) := by rw [hwb, heap_alloc, if_pos rfl]
  have ub : Upd noB w wb := by rw [hwb]; exact (Upd.refl _ _).alloc _
  refine call_den (args := [_]) Tryz.func54 rfl rfl (by simp [Tryz.ntmps54]) ?_
  simp [go_sem]
  rw [← hwb]
  have hs : wb.heap.size = w.heap.size + 1 := by rw [hwb]; simp
  have hbg := fun hp => get_of hb hp
  by_cases hf : hasF h.flags 2
  · simp [go_sem, hb, hbg, hs, a2, hf, a15]
    refine CallP.mono (headKnown_any h.command _) ?_
    rintro r w1 ⟨rfl, hw1⟩
    have u1 : Upd noB wb w1 := by
      rw [hw1]
      exact ((((Upd.refl noB wb).alloc _).setB _ _ (fun h => absurd h (by omega))).setB _ _ (fun h => absurd h (by omega))).setB _ _ (fun h => absurd h (by omega))
    cases hk : knownL h.command with
    | false =>
      simp [go_sem]
      exact ⟨by unfold mayL; rw [hk]; rfl, ub.trans u1⟩
    | true =>
      subst hw1
      simp [go_sem, hb, hbg, hs]
      exact ⟨may_t h ok hf hk, ub.trans u1⟩
  · simp [go_sem, hb, hbg, hs, a2, hf, a15]
    refine CallP.mono (headKnown_any h.command _) ?_
    rintro r w1 ⟨rfl, hw1⟩
    have u1 : Upd noB wb w1 := by
      rw [hw1]
      exact ((((Upd.refl noB wb).alloc _).setB _ _ (fun h => absurd h (by omega))).setB _ _ (fun h => absurd h (by omega))).setB _ _ (fun h => absurd h (by omega))
    cases hk : knownL h.command with
    | false =>
      simp [go_sem]
      exact ⟨by unfold mayL; rw [hk]; rfl, ub.trans u1⟩
    | true =>
      subst hw1
      simp [go_sem, hb, hbg, hs]
      exact ⟨may_f h ok hf hk, ub.trans u1⟩
end Go.Proofs.YtinfdomlpbikaaaGreatDoor
namespace Go.Proofs.YtinfdomlpbikaaaGreatDoor
open Go.Eng
set_option linter.unusedSimpArgs false
set_option linter.unusedVariables false
set_option maxRecDepth 100000
variable {w w0 : World}
theorem slByte_nil (w : World) (base : Nat) : OwnB w base (.slice none 0 0) [] := World.ownsX_nil _ _ _ _
/-- put, of an int -/
theorem endsPut_z {z : Int} {k : Nat} (hk : sizeOk k) (h0 : 0 ≤ z) (h1 : z < 256 ^ k) (w : World) :
    CallP Tryz.prog 56 #[.int .u64 z, .int .i64 k] w (fun r w' => ∃ v, r = .tuple #[v, .int .i64 0] ∧ Upd noB w w' ∧ OwnB w' w.heap.size v (leB z.toNat k)) := by
  obtain ⟨n, rfl⟩ := Int.eq_ofNat_of_zero_le h0
  exact endsPut_any n k hk (by have : ((n : Int)) < ((256 ^ k : Nat) : Int) := by simpa using h1
                               omega) w
/-- a head's bytes -/
def asyncB (h : HeadV) : List UInt8 := if hasF h.flags 2 then leB h.async.toNat 8 else leB 0 4 ++ leB h.tree.toNat 4
def headA (h : HeadV) : List UInt8 :=
  [0xfe, 0x53, 0x4d, 0x42] ++ leB 64 2 ++ leB h.charge.toNat 2 ++ leB h.status.toNat 4 ++ leB h.command.toNat 2 ++ leB h.credits.toNat 2 ++ leB h.flags.toNat 4 ++ leB h.next.toNat 4 ++ leB h.id.toNat 8 ++ asyncB h ++ leB h.session.toNat 8
def headB (h : HeadV) : List UInt8 := headA h ++ h.sign.1
theorem asyncB_len (h : HeadV) : (asyncB h).length = 8 := by unfold asyncB; split <;> simp [leB_len]
theorem headA_len (h : HeadV) : (headA h).length = 48 := by simp [headA, leB_len, asyncB_len]
theorem headB_len (h : HeadV) : (headB h).length = 64 := by simp [headB, headA_len, h.sign.2]
/-- the signature, in the head's block -/
theorem sign_at {b : Nat} {h : HeadV} {t : TypeId} {f : Nat × Nat} (hb : w.heap[b]? = some (.cells h.cells t f)) : BytesAt w (.slice (some ⟨b, 10, none⟩) 16 16) h.sign.1 := by
  refine ⟨⟨by simp, Or.inr ⟨b, 10, 16, _, _, _, by rw [h.sign.2], hb, by rw [h.sign.2, h.size]; decide, ?_⟩⟩, Nat.le_refl _⟩
  have e : h.row.drop 10 = h.sign.1.map u8V := rfl
  simp [HeadV.cells, e, h.sign.2]
  rw [← List.map_take, List.take_of_length_le (by rw [h.sign.2]; exact Nat.le_refl _)]
end Go.Proofs.YtinfdomlpbikaaaGreatDoor
namespace Go.Proofs.YtinfdomlpbikaaaGreatDoor
open Go.Eng
set_option linter.unusedSimpArgs false
set_option linter.unusedVariables false
set_option maxRecDepth 100000
variable {w w0 : World}
structure FV where
  place : Int
  size : Nat
  n : Int
def FV.row (f : FV) : List Value := [.int .i64 f.place, .int .i64 (f.size : Int), .int .u64 f.n]
def FV.ok (f : FV) : Prop := sizeOk f.size ∧ 0 ≤ f.n ∧ f.n < 256 ^ f.size
theorem FV.row_len (f : FV) : f.row.length = 3 := (rfl)
theorem slField : SlT Tryz.prog 82 85 3 24 :=
  SlT.mk' Tryz.underlying82 (i := Tryz.t85) (z := .agg #[.int .i64 0, .int .i64 0, .int .u64 0]) (by kernel_rfl) (by kernel_rfl) (by kernel_rfl) (by kernel_rfl) rfl (by decide)
def bothN (h : HeadV) : Int := if hasF h.flags 2 then h.async else h.tree * 4294967296
def fieldsL (h : HeadV) : List FV :=
  [⟨0, 4, 1112364030⟩, ⟨4, 2, 64⟩, ⟨6, 2, h.charge⟩, ⟨8, 4, h.status⟩, ⟨12, 2, h.command⟩, ⟨14, 2, h.credits⟩, ⟨16, 4, h.flags⟩, ⟨20, 4, h.next⟩, ⟨24, 8, h.id⟩, ⟨32, 8, bothN h⟩, ⟨40, 8, h.session⟩]
theorem or0_u64 {a : Int} (h0 : 0 ≤ a) (h1 : a < 18446744073709551616) : bits .or .u64 a 0 = a := by
  obtain ⟨n, rfl⟩ := Int.eq_ofNat_of_zero_le h0
  exact (bits_or_u64_nat n 0 (by omega) (by omega)).trans (by simp)
theorem or0_u64' {a : Int} (h0 : 0 ≤ a) (h1 : a < 18446744073709551616) : bits .or .u64 0 a = a := by
  obtain ⟨n, rfl⟩ := Int.eq_ofNat_of_zero_le h0
  exact (bits_or_u64_nat 0 n (by omega) (by omega)).trans (by simp)
theorem fields_ok (h : HeadV) (ok : h.ok) : ∀ f, f ∈ fieldsL h → f.ok := by
  have hb : 0 ≤ bothN h ∧ bothN h < 18446744073709551616 := by
    unfold bothN
    have := ok.tree
    split
    · exact ok.async
    · omega
  intro f hf
  simp only [fieldsL, List.mem_cons, List.mem_nil_iff, or_false] at hf
  rcases hf with rfl | rfl | rfl | rfl | rfl | rfl | rfl | rfl | rfl | rfl | rfl
  · exact ⟨by decide, by decide, by decide⟩
  · exact ⟨by decide, by decide, by decide⟩
  · exact ⟨(by decide : sizeOk 2), ok.charge⟩
  · exact ⟨(by decide : sizeOk 4), ok.status⟩
  · exact ⟨(by decide : sizeOk 2), ok.command⟩
  · exact ⟨(by decide : sizeOk 2), ok.credits⟩
  · exact ⟨(by decide : sizeOk 4), ok.flags⟩
  · exact ⟨(by decide : sizeOk 4), ok.next⟩
  · exact ⟨(by decide : sizeOk 8), ok.id⟩
  · exact ⟨(by decide : sizeOk 8), hb⟩
  · exact ⟨(by decide : sizeOk 8), ok.session⟩
theorem leB_two (t : Nat) (ht : t < 4294967296) : leB (t * 4294967296) 8 = leB 0 4 ++ leB t 4 := by
  have h := leB_numB (leB 0 4 ++ leB t 4)
  rw [numB_append, numB_leB, numB_leB] at h
  simp only [List.length_append, leB_len] at h
  have e : 0 % 256 ^ 4 + 256 ^ 4 * (t % 256 ^ 4) = t * 4294967296 := by omega
  rw [e] at h
  exact h
theorem fields_bytes (h : HeadV) (ok : h.ok) : (fieldsL h).flatMap (fun f => leB f.n.toNat f.size) = headA h := by
  have e : leB (bothN h).toNat 8 = asyncB h := by
    unfold bothN asyncB
    by_cases hf : hasF h.flags 2
    · rw [if_pos hf, if_pos hf]
    · rw [if_neg hf, if_neg hf]
      have := ok.tree
      have e2 : (h.tree * 4294967296).toNat = h.tree.toNat * 4294967296 := by omega
      rw [e2, leB_two _ (by omega)]
  have e1 : leB (1112364030 : Int).toNat 4 = [0xfe, 0x53, 0x4d, 0x42] := by decide
  have e2 : (64 : Int).toNat = 64 := rfl
  simp only [fieldsL, List.flatMap_cons, List.flatMap_nil, List.append_nil]
  rw [e, e1, e2]
  unfold headA
  simp only [List.append_assoc]
set_option maxHeartbeats 2000000 in
theorem fields_any (h : HeadV) (ok : h.ok) (hm : mayL h = true) (w : World) : CallP Tryz.prog 55 #[.agg h.cells] w (fun r w' => Upd noB w w' ∧ RowAt w' 3 r 11 ((fieldsL h).flatMap FV.row)) := by
  have c0 : IntKind.u64.wrap h.charge = h.charge := wrap64 ok.charge.1 (by have := ok.charge; omega)
  have c1 : IntKind.u64.wrap h.status = h.status := wrap64 ok.status.1 (by have := ok.status; omega)
  have c2 : IntKind.u64.wrap h.command = h.command := wrap64 ok.command.1 (by have := ok.command; omega)
  have c3 : IntKind.u64.wrap h.credits = h.credits := wrap64 ok.credits.1 (by have := ok.credits; omega)
  have c4 : IntKind.u64.wrap h.flags = h.flags := wrap64 ok.flags.1 (by have := ok.flags; omega)
  have c5 : IntKind.u64.wrap h.next = h.next := wrap64 ok.next.1 (by have := ok.next; omega)
  have c8 : IntKind.u64.wrap h.tree = h.tree := wrap64 ok.tree.1 (by have := ok.tree; omega)
  have cb : bits .or .u64 h.async (IntKind.u64.wrap (h.tree * 4294967296)) = bothN h := by
    have ht := ok.tree
    unfold mayL at hm
    unfold bothN
    by_cases hf : hasF h.flags 2
    · rw [if_pos hf] at hm ⊢
      simp at hm
      rw [hm.2.2]
      exact or0_u64 ok.async.1 ok.async.2
    · rw [if_neg hf] at hm ⊢
      simp at hm
      rw [hm.2.2, wrap64 (by omega) (by omega)]
      exact or0_u64' (by omega) (by omega)
  refine call_den (args := [_]) Tryz.func55 rfl rfl (by simp [Tryz.ntmps55]) ?_
  simp [go_sem, c0, c1, c2, c3, c4, c5, c8, cb]
  rw [slField.buildN 11 _ rfl (by simp [Value.cells]) (by decide) (by decide)]
  simp [go_sem, Value.cells]
  refine ⟨((Upd.refl _ _).alloc _).alloc _, by simp [fieldsL, FV.row], Or.inr ⟨_, 0, 11, _, _, _, rfl, by rw [heap_alloc, if_pos (by simp)], by simp, ?_⟩⟩
  simp [fieldsL, FV.row]
def HPutI (wb : World) (bh : Nat) (vf : Value) (F : List FV) (m : Nat) (ρ : Env) (w' : World) : Prop :=
  ∃ (i : Nat) (v : Value), m = F.length - i ∧ i ≤ F.length ∧ ρ 1 = .pointer (some ⟨bh, 0, none⟩) ∧ ρ 4 = v ∧ ρ 13 = vf ∧ ρ 14 = .int .i64 F.length ∧ ρ 15 = .int .i64 i ∧ Upd noB wb w' ∧ OwnB w' wb.heap.size v ((F.take i).flatMap (fun f => leB f.n.toNat f.size))
theorem put_len (F : List FV) (hF : ∀ f, f ∈ F → f.ok) : (F.flatMap (fun f => leB f.n.toNat f.size)).length ≤ 8 * F.length := by
  induction F with
  | nil => simp
  | cons f r ih =>
    have h1 := (hF f (by simp)).1
    have h2 := ih (fun g hg => hF g (by simp [hg]))
    unfold sizeOk at h1
    simp only [List.flatMap_cons, List.length_append, leB_len, List.length_cons]
    omega
set_option maxHeartbeats 4000000 in
theorem headPut_any (h : HeadV) (ok : h.ok) (w : World) : CallP Tryz.prog 33 #[.agg h.cells] w (fun r w' => Upd noB w w' ∧
    if mayL h then ∃ v, r = .tuple #[v, .int .i64 0] ∧ OwnB w' w.heap.size v (headB h) else r = .tuple #[.slice none 0 0, .int .i64 2]) := by
  obtain ⟨wb, hwb⟩ : ∃ wb, wb = w.alloc (.cells h.cells 28) := ⟨_, rfl⟩
  have hb : wb.heap[w.heap.size]? = some (.cells h.cells 28 (0, 0)) := by rw [hwb, heap_alloc, if_pos rfl]
  have ub : Upd noB w wb := by rw [hwb]; exact (Upd.refl _ _).alloc _
  refine call_den (args := [_]) Tryz.func33 rfl rfl (by simp [Tryz.ntmps33]) ?_
  simp [go_sem]
  rw [← hwb]
  refine CallP.mono (headMay_any h ok wb) ?_
  rintro r w1 ⟨rfl, u1⟩
  cases hm : mayL h with
  | false =>
    simp [go_sem]
    exact ub.trans u1
  | true =>
    have hb1 := u1.get hb (by simp [noB])
    simp [go_sem, hb1]
    refine CallP.mono (fields_any h ok hm w1) ?_
    rintro vf w2 ⟨u2, row⟩
    obtain ⟨p, cap, rfl⟩ := row.len
    have u12 : Upd noB wb w2 := u1.trans u2
    have hF := fields_ok h ok
    have hFB := fields_bytes h ok
    have hFl : (fieldsL h).length = 11 := rfl
    generalize fieldsL h = F at *
    simp [go_sem]
    refine den_loop (HPutI w2 w.heap.size (.slice p 11 cap) F) 11 ?_ ?_
    · exact ⟨0, .slice none 0 0, by omega, by omega, by simp [go_sem], by simp [go_sem], by simp [go_sem], by simp [go_sem, hFl], by simp [go_sem], Upd.refl _ _, slByte_nil _ _⟩
    · rintro m ρ w' ⟨i, v, rfl, hi, g1, g4, g13, g14, g15, hu, own⟩
      rw [hFl] at g14
      have hb2 := hu.get (u2.get hb1 (by simp [noB])) (by simp [noB])
      replace row := row.keep hu (fun _ _ h => h)
      by_cases hlt : i < F.length
      · have hlt' : (i : Int) < 11 := by omega
        have hwr : IntKind.i64.wrap ((i : Int) + 1) = ((i + 1 : Nat) : Int) := wrap64_id (by omega) (by omega)
        obtain ⟨q, hidx, hld, hK⟩ := row.atN (P := Tryz.prog) (t := 82) (e := 85) Tryz.underlying82 Tryz.sizeOf85 Tryz.isAgg85 i (by omega)
        have hrow : (((F.flatMap FV.row).drop (i * 3)).take 3).toArray = F[i].row.toArray := by rw [flat_at FV.row 3 FV.row_len F i hlt]
        rw [hrow] at hK
        have hok := hF _ (List.getElem_mem hlt)
        have htk : (F.take (i + 1)).flatMap (fun f => leB f.n.toNat f.size) = (F.take i).flatMap (fun f => leB f.n.toNat f.size) ++ leB F[i].n.toNat F[i].size := by
          rw [List.take_succ_eq_append_getElem hlt, List.flatMap_append]; simp
        have hlen := put_len (F.take i) (fun f hf => hF f (List.mem_of_mem_take hf))
        rw [List.length_take] at hlen
        obtain ⟨f, hf⟩ : ∃ f, f = F[i] := ⟨_, rfl⟩
        rw [← hf] at hK hok htk
        unfold FV.row at hK
        simp [go_sem, g1, g4, g13, g14, g15, hlt', hidx, hK]
        have ua : Upd noB w' ((w'.alloc (.cells #[.int .i64 0, .int .i64 0, .int .u64 0] 85)).setB w'.heap.size (.cells #[.int .i64 f.place, .int .i64 f.size, .int .u64 f.n] 85)) := ((Upd.refl noB w').alloc _).setB _ _ (fun h => absurd h (by omega))
        refine CallP.mono (endsPut_z hok.1 hok.2.1 hok.2.2 _) ?_
        rintro r w3 ⟨x, rfl, u3, own3⟩
        have u3' := ua.trans u3
        obtain ⟨v', w4, hrun, own4, hg4⟩ := OwnB.append (l := (F.take i).flatMap (fun f => leB f.n.toNat f.size)) (own_keep0 own u3') own3.at 31 (by rw [leB_len]; have := hok.1; unfold sizeOk at this; omega) (hu.trans u3').size
        simp [go_sem, g1, g4, g13, g14, g15, K_append_ok _ _ _ _ hrun]
        have u4 : Upd noB w2 w4 := upd_append (own_keep0 own u3') (hu.trans u3') (Nat.le_refl _) hg4
        refine ⟨F.length - (i + 1), by omega, i + 1, v', rfl, by omega, by simp [go_sem, g1], by simp [go_sem], by simp [go_sem, g13], by simp [go_sem, g14, hFl], by simp [go_sem, hwr], u4, by rw [htk]; exact own4⟩
      · have hi' : i = 11 := by omega
        subst hi'
        rw [← hFl, List.take_length, hFB] at own
        obtain ⟨v', w4, hrun, own4, hg4⟩ := own.append (sign_at hb2) 31 (by rw [headA_len, h.sign.2]; decide) hu.size
        simp [go_sem, g1, g4, g13, g14, g15, K_append_ok _ _ _ _ hrun]
        exact ⟨ub.trans (u12.trans (upd_append own hu (Nat.le_refl _) hg4)), own_base own4 (ub.trans u12).size⟩
end Go.Proofs.YtinfdomlpbikaaaGreatDoor
namespace Go.Proofs.YtinfdomlpbikaaaGreatDoor
open Go.Eng
set_option linter.unusedSimpArgs false
set_option linter.unusedVariables false
set_option maxRecDepth 100000
variable {w w0 : World}
theorem copy_bytes {s : Value} {l : List UInt8} (hb : BytesAt w s l) (hpos : 0 < l.length) {g o dCap : Nat} {cur : Array Value} {t ty : TypeId} (hg : w.heap[g]? = some (.cells cur t (0, 0))) (hfit : o + l.length ≤ cur.size) :
    (Builtin.copy_ #[31, 31] ty #[.slice (some ⟨g, o, none⟩) l.length dCap, s]).run Tryz.prog w = .ok (goInt l.length) (w.setB g (.cells (cur.toList.take o ++ l.map u8V ++ cur.toList.drop (o + l.length)).toArray t (0, 0))) := by
  rcases hb.1.2 with ⟨p, cap, rfl, h0⟩ | ⟨b, off, cap, c, te, f, rfl, hbb, hle, htake⟩
  · omega
  · have hsz : (Tryz.prog.info? 5).map (·.size) = some 1 := by kernel_rfl
    have := run_copy_row (P := Tryz.prog) w 31 31 ty 5 g o l.length dCap ⟨b, off, none⟩ l.length cap cur t (l.map u8V) Tryz.underlying31 hsz hg (by simp [Nat.min_def])
      (by
        intro j v hv
        rw [cell?_add, hbb, cellIn_some]
        rw [← htake, List.getElem?_take] at hv
        split at hv
        · rw [List.getElem?_drop, Array.getElem?_toList] at hv; exact hv
        · cases hv)
      (by simpa using hfit) (u8_one l)
    rw [this, setRow_setB w g _ hg]
    simp
theorem K_copy_bytes {s : Value} {l : List UInt8} (hb : BytesAt w s l) (hpos : 0 < l.length) {g o n dCap : Nat} {cur : Array Value} {t : TypeId} (hg : w.heap[g]? = some (.cells cur t (0, 0))) (hfit : o + l.length ≤ cur.size) (hn : n = l.length) (k : Value → World → Prop) (ty : TypeId) :
    K_copy Tryz.prog #[31, 31] ty #[.slice (some ⟨g, o, none⟩) n dCap, s] w k = k (goInt l.length) (w.setB g (.cells (cur.toList.take o ++ l.map u8V ++ cur.toList.drop (o + l.length)).toArray t (0, 0))) := by
  subst hn
  exact K_copy_ok _ _ _ _ (copy_bytes hb hpos hg hfit)
theorem head_copy (h : HeadV) (l : List UInt8) (hl : l.length = 16) : (h.cells.toList.take 10 ++ l.map u8V ++ h.cells.toList.drop (10 + l.length)).toArray = { h with sign := ⟨l, hl⟩ }.cells := by
  have e1 : h.row.take 10 = { h with sign := ⟨l, hl⟩ }.row.take 10 := rfl
  have e2 : { h with sign := ⟨l, hl⟩ }.row = { h with sign := ⟨l, hl⟩ }.row.take 10 ++ l.map u8V := rfl
  have e3 : h.row.length = 26 := by simp [HeadV.row, h.sign.2]
  simp only [HeadV.cells]
  rw [hl, e1, List.drop_eq_nil_of_le (by rw [e3]; decide), List.append_nil]
  exact congrArg List.toArray e2.symm
/-- the number of k bytes at a place -/
def numAt (l : List UInt8) (a k : Nat) : Nat := numB (cutL l a k)
theorem numAt_lt (l : List UInt8) (a k : Nat) : numAt l a k < 256 ^ k := by
  refine Nat.lt_of_lt_of_le (numB_lt _) (Nat.pow_le_pow_right (by decide) ?_)
  simp [cutL]; omega
@[go_sem] theorem num16 (l : List UInt8) (a : Nat) : IntKind.u16.wrap (numAt l a 2 : Int) = numAt l a 2 := wrap16 (by omega) (by have := numAt_lt l a 2; omega)
@[go_sem] theorem num32 (l : List UInt8) (a : Nat) : IntKind.u32.wrap (numAt l a 4 : Int) = numAt l a 4 := wrap32 (by omega) (by have := numAt_lt l a 4; omega)
theorem getN_any {s : Value} {l : List UInt8} (hb : BytesAt w s l) (hl : l.length ≤ 9223372036854775807) {z : Int} (a o k bs ba : Nat) {t1 : TypeId} (hbs : w.heap[bs]? = some (.cells #[s] t1 (0, 0))) (hba : w.heap[ba]? = some (.cells #[.int .i64 (a : Int)] 3 (0, 0)))
    (hz : z = (o : Int)) (h : a + o + k ≤ l.length) (hk : sizeOk k) (hs1 : (isAgg 31).run Tryz.prog w = .ok false w) :
    CallP Tryz.prog 70 #[.int .i64 z, .int .i64 k, .pointer (some ⟨bs, 0, none⟩), .pointer (some ⟨ba, 0, none⟩)] w (fun r w' => r = .int .u64 (numAt l (a + o) k) ∧ w' = w) := by
  subst hz
  have hw : IntKind.i64.wrap ((a : Int) + o) = ((a + o : Nat) : Int) := by rw [wrap64_id (by omega) (by omega)]; omega
  refine call_den (args := [_, _, _, _]) Tryz.func70 rfl rfl (by simp [Tryz.ntmps70]) ?_
  simp [go_sem, hbs, hba]
  rw [hw]
  refine CallP.mono (endsGet_any hb hl (a + o) k h hk) ?_
  rintro r w1 ⟨rfl, rfl⟩
  simp [go_sem]
  rfl
/-- the head that stands at a place -/
def getH (l : List UInt8) (a : Nat) : HeadV :=
  { charge := numAt l (a + 6) 2, status := numAt l (a + 8) 4, command := numAt l (a + 12) 2, credits := numAt l (a + 14) 2, flags := numAt l (a + 16) 4, next := numAt l (a + 20) 4, id := numAt l (a + 24) 8,
    async := if hasF (numAt l (a + 16) 4) 2 then numAt l (a + 32) 8 else 0, tree := if hasF (numAt l (a + 16) 4) 2 then 0 else numAt l (a + 36) 4, session := numAt l (a + 40) 8,
    sign := if hs : (cutL l (a + 48) 16).length = 16 then ⟨cutL l (a + 48) 16, hs⟩ else ⟨List.replicate 16 0, rfl⟩ }
def badH (l : List UInt8) (a : Nat) : Bool :=
  decide (numAt l a 4 ≠ 1112364030) || (decide (numAt l (a + 4) 2 ≠ 64) || (!mayL (getH l a) || (decide (¬ hasF (numAt l (a + 16) 4) 2) && decide (numAt l (a + 32) 4 ≠ 0))))
theorem getH_ok (l : List UInt8) (a : Nat) : (getH l a).ok := by
  have h := numAt_lt l
  refine ⟨?_, ?_, ?_, ?_, ?_, ?_, ?_, ?_, ?_, ?_⟩ <;> simp only [getH]
  · have := h (a + 6) 2; omega
  · have := h (a + 8) 4; omega
  · have := h (a + 12) 2; omega
  · have := h (a + 14) 2; omega
  · have := h (a + 16) 4; omega
  · have := h (a + 20) 4; omega
  · have := h (a + 24) 8; omega
  · split
    · have := h (a + 32) 8; omega
    · omega
  · split
    · omega
    · have := h (a + 36) 4; omega
  · have := h (a + 40) 8; omega
def GetOut (l : List UInt8) (a : Nat) (r : Value) : Prop :=
  if l.length - a < 64 then r = .tuple #[.agg zeroH.cells, .int .i64 4]
  else if badH l a then r = .tuple #[.agg zeroH.cells, .int .i64 5] else r = .tuple #[.agg (getH l a).cells, .int .i64 0]
/-- the head, its first n fields read -/
def gH (l : List UInt8) (a n : Nat) : HeadV :=
  { charge := if 1 ≤ n then numAt l (a + 6) 2 else 0, status := if 2 ≤ n then numAt l (a + 8) 4 else 0, command := if 3 ≤ n then numAt l (a + 12) 2 else 0, credits := if 4 ≤ n then numAt l (a + 14) 2 else 0,
    flags := if 5 ≤ n then numAt l (a + 16) 4 else 0, next := if 6 ≤ n then numAt l (a + 20) 4 else 0, id := if 7 ≤ n then numAt l (a + 24) 8 else 0, async := 0, tree := 0, session := if 8 ≤ n then numAt l (a + 40) 8 else 0, sign := zeroH.sign }
def GA (l : List UInt8) (a : Nat) : HeadV := { gH l a 8 with async := numAt l (a + 32) 8 }
def GT (l : List UInt8) (a : Nat) : HeadV := { gH l a 8 with tree := numAt l (a + 36) 4 }
end Go.Proofs.YtinfdomlpbikaaaGreatDoor
namespace Go.Proofs.YtinfdomlpbikaaaGreatDoor
open Go.Eng
set_option linter.unusedSimpArgs false
set_option linter.unusedVariables false
set_option maxRecDepth 100000
variable {w w0 : World}
/-- what the rest of head.Get stands on -/
structure GU (w W : World) (p : Option Addr) (n cap a : Nat) (G : HeadV) : Prop where
  u : Upd noB w W
  hs : W.heap[w.heap.size]? = some (.cells #[.slice p n cap] 31 (0, 0))
  ha : W.heap[w.heap.size + 1]? = some (.cells #[.int .i64 (a : Int)] 3 (0, 0))
  hz : W.heap[w.heap.size + 1 + 1]? = some (.cells zeroH.cells 28 (0, 0))
  hh : W.heap[w.heap.size + 1 + 1 + 1]? = some (.cells G.cells 28 (0, 0))
theorem GU.set {W : World} {p : Option Addr} {n cap a : Nat} {G : HeadV} (g : GU w W p n cap a G) (G' : HeadV) : GU w (W.setB (w.heap.size + 1 + 1 + 1) (.cells G'.cells 28)) p n cap a G' :=
  ⟨g.u.setB _ _ (fun h => absurd h (by omega)), by rw [heap_setB, if_neg (by omega)]; exact g.hs, by rw [heap_setB, if_neg (by omega)]; exact g.ha, by rw [heap_setB, if_neg (by omega)]; exact g.hz, by rw [heap_setB, if_pos rfl, g.hh]; rfl⟩
theorem GU.keep {W W' : World} {p : Option Addr} {n cap a : Nat} {G : HeadV} (g : GU w W p n cap a G) (u : Upd noB W W') : GU w W' p n cap a G :=
  ⟨g.u.trans u, u.get g.hs (by simp [noB]), u.get g.ha (by simp [noB]), u.get g.hz (by simp [noB]), u.get g.hh (by simp [noB])⟩
set_option maxHeartbeats 4000000 in
theorem headGet_any {s : Value} {l : List UInt8} (hb : BytesAt w s l) (hl : l.length ≤ 9223372036854775000) (a : Nat) (ha : a ≤ l.length) :
    CallP Tryz.prog 43 #[s, .int .i64 a] w (fun r w' => Upd noB w w' ∧ GetOut l a r) := by
  obtain ⟨p, cap, rfl, hcap⟩ := hb.len
  have hwn : ∀ k : Int, 0 ≤ k → k ≤ 64 → IntKind.i64.wrap ((a : Int) + k) = (a : Int) + k := fun k h0 hk => wrap64_id (by omega) (by omega)
  have hw1 : IntKind.i64.wrap ((l.length : Int) - a) = (l.length : Int) - a := wrap64_id (by omega) (by omega)
  have n1 : ¬ (a : Int) < 0 := by omega
  have n2 : ¬ l.length < a := by omega
  have hsz0 : zeroH.cells.size = 26 := HeadV.size _
  refine call_den (args := [_, _]) Tryz.func43 rfl rfl (by simp [Tryz.ntmps43]) ?_
  simp [go_sem, n1]
  refine gen_load ?_
  intro W hW
  have hu : Upd noB w W := by rw [hW]; exact (by repeat (first | exact Upd.refl _ _ | refine Upd.alloc ?_ _ | refine Upd.drew ?_ | refine Upd.drewN ?_ _ | refine Upd.setB ?_ _ _ (fun h => absurd h (by omega))))
  have hz : W.heap[w.heap.size + 1 + 1]? = some (.cells zeroH.cells 28 (0, 0)) := by rw [hW, heap_alloc, if_pos (by simp)]
  have ha' : W.heap[w.heap.size + 1]? = some (.cells #[.int .i64 (a : Int)] 3 (0, 0)) := by rw [hW, heap_alloc, if_neg (by simp), heap_alloc, if_pos (by simp)]
  have hs' : W.heap[w.heap.size]? = some (.cells #[.slice p l.length cap] 31 (0, 0)) := by rw [hW, heap_alloc, if_neg (by simp; omega), heap_alloc, if_neg (by simp), heap_alloc, if_pos rfl]
  have hsz : W.heap.size = w.heap.size + 1 + 1 + 1 := by rw [hW]; simp
  clear hW
  by_cases h64 : l.length - a < 64
  · have n3 : (l.length : Int) - a < 64 := by omega
    simp [go_sem, n1, n2, n3, hw1, hz, ha', hs', hsz0]
    refine ⟨hu.setB _ _ (fun h => absurd h (by omega)), ?_⟩
    unfold GetOut
    rw [if_pos h64]
  · have n3 : ¬ (l.length : Int) - a < 64 := by omega
    simp [go_sem, n1, n2, n3, hw1, hwn, hz, ha', hs', hsz0]
    refine CallP.mono (getN_any (hb.keep0 hu) (by omega) a 6 2 w.heap.size (w.heap.size + 1) (by assumption) (by assumption) rfl (by omega) (by decide) (Tryz.isAgg31 _)) ?_
    rintro r W2 ⟨rfl, hW2⟩
    rw [hW2]
    clear hW2
    clear W2
    simp [go_sem, hwn, hz, ha', hs', hsz0]
    refine CallP.mono (getN_any (hb.keep0 hu) (by omega) a 8 4 w.heap.size (w.heap.size + 1) (by assumption) (by assumption) rfl (by omega) (by decide) (Tryz.isAgg31 _)) ?_
    rintro r W2 ⟨rfl, hW2⟩
    rw [hW2]
    clear hW2
    clear W2
    simp [go_sem, hwn, hz, ha', hs', hsz0]
    refine CallP.mono (getN_any (hb.keep0 hu) (by omega) a 12 2 w.heap.size (w.heap.size + 1) (by assumption) (by assumption) rfl (by omega) (by decide) (Tryz.isAgg31 _)) ?_
    rintro r W2 ⟨rfl, hW2⟩
    rw [hW2]
    clear hW2
    clear W2
    simp [go_sem, hwn, hz, ha', hs', hsz0]
    refine CallP.mono (getN_any (hb.keep0 hu) (by omega) a 14 2 w.heap.size (w.heap.size + 1) (by assumption) (by assumption) rfl (by omega) (by decide) (Tryz.isAgg31 _)) ?_
    rintro r W2 ⟨rfl, hW2⟩
    rw [hW2]
    clear hW2
    clear W2
    simp [go_sem, hwn, hz, ha', hs', hsz0]
    refine CallP.mono (getN_any (hb.keep0 hu) (by omega) a 16 4 w.heap.size (w.heap.size + 1) (by assumption) (by assumption) rfl (by omega) (by decide) (Tryz.isAgg31 _)) ?_
    rintro r W2 ⟨rfl, hW2⟩
    rw [hW2]
    clear hW2
    clear W2
    simp [go_sem, hwn, hz, ha', hs', hsz0]
    refine CallP.mono (getN_any (hb.keep0 hu) (by omega) a 20 4 w.heap.size (w.heap.size + 1) (by assumption) (by assumption) rfl (by omega) (by decide) (Tryz.isAgg31 _)) ?_
    rintro r W2 ⟨rfl, hW2⟩
    rw [hW2]
    clear hW2
    clear W2
    simp [go_sem, hwn, hz, ha', hs', hsz0]
    refine CallP.mono (getN_any (hb.keep0 hu) (by omega) a 24 8 w.heap.size (w.heap.size + 1) (by assumption) (by assumption) rfl (by omega) (by decide) (Tryz.isAgg31 _)) ?_
    rintro r W2 ⟨rfl, hW2⟩
    rw [hW2]
    clear hW2
    clear W2
    simp [go_sem, hwn, hz, ha', hs', hsz0]
    refine CallP.mono (getN_any (hb.keep0 hu) (by omega) a 40 8 w.heap.size (w.heap.size + 1) (by assumption) (by assumption) rfl (by omega) (by decide) (Tryz.isAgg31 _)) ?_
    rintro r W2 ⟨rfl, hW2⟩
    rw [hW2]
    clear hW2
    clear W2
    simp [go_sem, hwn, hz, ha', hs', hsz0]
    refine gen_den ?_
    intro W3 hW3
    have g : GU w W3 p l.length cap a (gH l a 8) := by
      rw [hW3]
      refine ⟨(hu.alloc _).setB _ _ (fun h => absurd h (by omega)), ?_, ?_, ?_, ?_⟩
      · rw [heap_setB, if_neg (by omega), heap_alloc, if_neg (by omega)]; exact hs'
      · rw [heap_setB, if_neg (by omega), heap_alloc, if_neg (by omega)]; exact ha'
      · rw [heap_setB, if_neg (by omega), heap_alloc, if_neg (by omega)]; exact hz
      · rw [heap_setB, if_pos hsz.symm, heap_alloc, if_pos hsz.symm]; rfl
    rw [hsz]
    clear hW3 hu hz ha' hs' hsz
    have a2 := and_2 (f := (numAt l (a + 16) 4 : Int)) (by omega) (by have := numAt_lt l (a + 16) 4; omega)
    by_cases hf : hasF (numAt l (a + 16) 4) 2
    · simp [go_sem, a2, hf]
      refine CallP.mono (getN_any (hb.keep0 g.u) (by omega) a 32 8 w.heap.size (w.heap.size + 1) g.hs g.ha rfl (by omega) (by decide) (Tryz.isAgg31 _)) ?_
      rintro r W2 ⟨rfl, hW2⟩
      rw [hW2]
      clear hW2
      clear W2
      simp [go_sem, g.hh]
      refine gen_draw ?_
      intro W4 hW4
      have g2 : GU w W4 p l.length cap a (GA l a) := by rw [hW4]; exact g.set (GA l a)
      clear hW4 g
      refine draw_script [.pure 0, .still [1, 2, 3, 4, 5, 6, 7], .one 8] (by kernel_rfl) (by kernel_rfl) (by kernel_rfl) ?_
      have d : GU w W4.drew p l.length cap a (GA l a) := g2.keep ((Upd.refl noB W4).drew)
      have c0 : 0 ≤ (a : Int) + 48 := by omega
      have c1 : (a : Int) + 48 ≤ (a : Int) + 64 := by omega
      have c2 : (a : Int) + 64 ≤ cap := by omega
      simp [go_sem, hwn, d.hs, d.ha, d.hh, d.hz, g2.hs, g2.ha, c0, c1, c2]
      have hS : (cutL l (a + 48) 16).length = 16 := cutL_len l (a + 48) 16 (by omega)
      have hfin : { (GA l a) with sign := ⟨cutL l (a + 48) 16, hS⟩ } = getH l a := by
        simp [GA, GT, gH, getH, hf, hS]
      have key := (hb.keep0 d.u).cut (lo := a + 48) (hi := a + 64) (m := cap) (by omega) (by omega) (by omega)
      have e1 : a + 64 - (a + 48) = 16 := by omega
      rw [e1] at key
      have e2 : Value.slice (if cap = ((a : Int) + 48).toNat then p else Option.map (fun x => x.add ((a : Int) + 48).toNat) p) (((a : Int) + 64).toNat - ((a : Int) + 48).toNat) (cap - ((a : Int) + 48).toNat) = sliced p (a + 48) (a + 64) cap 1 := by
        have t1 : ((a : Int) + 48).toNat = a + 48 := by omega
        have t2 : ((a : Int) + 64).toNat = a + 64 := by omega
        rw [t1, t2]
        unfold sliced
        simp
      rw [e2, K_copy_bytes (l := cutL l (a + 48) 16) key (by omega) d.hh (by rw [hS, HeadV.size]; decide) hS.symm, head_copy _ _ hS, hfin]
      obtain ⟨W5, hW5⟩ : ∃ W5, W5 = W4.drew.setB (w.heap.size + 1 + 1 + 1) (.cells (getH l a).cells 28 (0, 0)) := ⟨_, rfl⟩
      rw [← hW5]
      have g : GU w W5 p l.length cap a (getH l a) := by rw [hW5]; exact d.set _
      clear hW5 d g2 key e2
      have a3 : bits .and .u32 (getH l a).flags 2 = if hasF (numAt l (a + 16) 4) 2 then 2 else 0 := a2
      simp [go_sem, hwn]
      refine CallP.mono (getN_any (hb.keep0 g.u) (by omega) a 0 4 w.heap.size (w.heap.size + 1) g.hs g.ha rfl (by omega) (by decide) (Tryz.isAgg31 _)) ?_
      rintro r W2 ⟨rfl, hW2⟩
      rw [hW2]
      clear hW2
      clear W2
      by_cases m4 : numAt l a 4 = 1112364030
      · simp [go_sem, m4]
        refine CallP.mono (getN_any (hb.keep0 g.u) (by omega) a 4 2 w.heap.size (w.heap.size + 1) g.hs g.ha rfl (by omega) (by decide) (Tryz.isAgg31 _)) ?_
        rintro r W2 ⟨rfl, hW2⟩
        rw [hW2]
        clear hW2
        clear W2
        by_cases h4 : numAt l (a + 4) 2 = 64
        · simp [go_sem, h4, g.hh]
          refine CallP.mono (headMay_any (getH l a) (getH_ok l a) _) ?_
          rintro r W6 ⟨rfl, u6⟩
          replace g := g.keep u6
          cases hmay : mayL (getH l a) with
          | false =>
            simp [go_sem, g.hh, g.hz, hsz0]
            refine ⟨g.u.setB _ _ (fun h => absurd h (by omega)), ?_⟩
            unfold GetOut
            rw [if_neg h64, if_pos (by simp [badH, hmay])]
          | true =>
            simp [go_sem, g.hh, g.hz, hsz0, a3, hf]
            refine ⟨g.u.setB _ _ (fun h => absurd h (by omega)), ?_⟩
            unfold GetOut
            rw [if_neg h64, if_neg (by simp [badH, hmay, m4, h4, hf])]
        · have h4' : ¬ (numAt l (a + 4) 2 : Int) = 64 := by omega
          simp [go_sem, g.hh, g.hz, hsz0, h4, h4']
          refine ⟨g.u.setB _ _ (fun h => absurd h (by omega)), ?_⟩
          unfold GetOut
          rw [if_neg h64, if_pos (by simp [badH, h4])]
      · have m4' : ¬ (numAt l a 4 : Int) = 1112364030 := by omega
        simp [go_sem, g.hh, g.hz, hsz0, m4, m4']
        refine ⟨g.u.setB _ _ (fun h => absurd h (by omega)), ?_⟩
        unfold GetOut
        rw [if_neg h64, if_pos (by simp [badH, m4])]
    · simp [go_sem, a2, hf]
      refine CallP.mono (getN_any (hb.keep0 g.u) (by omega) a 36 4 w.heap.size (w.heap.size + 1) g.hs g.ha rfl (by omega) (by decide) (Tryz.isAgg31 _)) ?_
      rintro r W2 ⟨rfl, hW2⟩
      rw [hW2]
      clear hW2
      clear W2
      simp [go_sem, g.hh]
      refine gen_draw ?_
      intro W4 hW4
      have g2 : GU w W4 p l.length cap a (GT l a) := by rw [hW4]; exact g.set (GT l a)
      clear hW4 g
      refine draw_script [.pure 0, .still [1, 2, 3, 4, 5, 6, 7], .one 8] (by kernel_rfl) (by kernel_rfl) (by kernel_rfl) ?_
      have d : GU w W4.drew p l.length cap a (GT l a) := g2.keep ((Upd.refl noB W4).drew)
      have c0 : 0 ≤ (a : Int) + 48 := by omega
      have c1 : (a : Int) + 48 ≤ (a : Int) + 64 := by omega
      have c2 : (a : Int) + 64 ≤ cap := by omega
      simp [go_sem, hwn, d.hs, d.ha, d.hh, d.hz, g2.hs, g2.ha, c0, c1, c2]
      have hS : (cutL l (a + 48) 16).length = 16 := cutL_len l (a + 48) 16 (by omega)
      have hfin : { (GT l a) with sign := ⟨cutL l (a + 48) 16, hS⟩ } = getH l a := by
        simp [GA, GT, gH, getH, hf, hS]
      have key := (hb.keep0 d.u).cut (lo := a + 48) (hi := a + 64) (m := cap) (by omega) (by omega) (by omega)
      have e1 : a + 64 - (a + 48) = 16 := by omega
      rw [e1] at key
      have e2 : Value.slice (if cap = ((a : Int) + 48).toNat then p else Option.map (fun x => x.add ((a : Int) + 48).toNat) p) (((a : Int) + 64).toNat - ((a : Int) + 48).toNat) (cap - ((a : Int) + 48).toNat) = sliced p (a + 48) (a + 64) cap 1 := by
        have t1 : ((a : Int) + 48).toNat = a + 48 := by omega
        have t2 : ((a : Int) + 64).toNat = a + 64 := by omega
        rw [t1, t2]
        unfold sliced
        simp
      rw [e2, K_copy_bytes (l := cutL l (a + 48) 16) key (by omega) d.hh (by rw [hS, HeadV.size]; decide) hS.symm, head_copy _ _ hS, hfin]
      obtain ⟨W5, hW5⟩ : ∃ W5, W5 = W4.drew.setB (w.heap.size + 1 + 1 + 1) (.cells (getH l a).cells 28 (0, 0)) := ⟨_, rfl⟩
      rw [← hW5]
      have g : GU w W5 p l.length cap a (getH l a) := by rw [hW5]; exact d.set _
      clear hW5 d g2 key e2
      have a3 : bits .and .u32 (getH l a).flags 2 = if hasF (numAt l (a + 16) 4) 2 then 2 else 0 := a2
      simp [go_sem, hwn]
      refine CallP.mono (getN_any (hb.keep0 g.u) (by omega) a 0 4 w.heap.size (w.heap.size + 1) g.hs g.ha rfl (by omega) (by decide) (Tryz.isAgg31 _)) ?_
      rintro r W2 ⟨rfl, hW2⟩
      rw [hW2]
      clear hW2
      clear W2
      by_cases m4 : numAt l a 4 = 1112364030
      · simp [go_sem, m4]
        refine CallP.mono (getN_any (hb.keep0 g.u) (by omega) a 4 2 w.heap.size (w.heap.size + 1) g.hs g.ha rfl (by omega) (by decide) (Tryz.isAgg31 _)) ?_
        rintro r W2 ⟨rfl, hW2⟩
        rw [hW2]
        clear hW2
        clear W2
        by_cases h4 : numAt l (a + 4) 2 = 64
        · simp [go_sem, h4, g.hh]
          refine CallP.mono (headMay_any (getH l a) (getH_ok l a) _) ?_
          rintro r W6 ⟨rfl, u6⟩
          replace g := g.keep u6
          cases hmay : mayL (getH l a) with
          | false =>
            simp [go_sem, g.hh, g.hz, hsz0]
            refine ⟨g.u.setB _ _ (fun h => absurd h (by omega)), ?_⟩
            unfold GetOut
            rw [if_neg h64, if_pos (by simp [badH, hmay])]
          | true =>
            simp [go_sem, g.hh, g.hz, hsz0, a3, hf]
            refine CallP.mono (getN_any (hb.keep0 g.u) (by omega) a 32 4 w.heap.size (w.heap.size + 1) g.hs g.ha rfl (by omega) (by decide) (Tryz.isAgg31 _)) ?_
            rintro r W2 ⟨rfl, hW2⟩
            rw [hW2]
            clear hW2
            clear W2
            by_cases hl0 : numAt l (a + 32) 4 = 0
            · simp [go_sem, g.hh, g.hz, hsz0, hl0]
              refine ⟨g.u.setB _ _ (fun h => absurd h (by omega)), ?_⟩
              unfold GetOut
              rw [if_neg h64, if_neg (by simp [badH, hmay, m4, h4, hf, hl0])]
            · have hl0' : ¬ (numAt l (a + 32) 4 : Int) = 0 := by omega
              simp [go_sem, g.hh, g.hz, hsz0, hl0, hl0']
              refine ⟨g.u.setB _ _ (fun h => absurd h (by omega)), ?_⟩
              unfold GetOut
              rw [if_neg h64, if_pos (by simp [badH, hf, hl0])]
        · have h4' : ¬ (numAt l (a + 4) 2 : Int) = 64 := by omega
          simp [go_sem, g.hh, g.hz, hsz0, h4, h4']
          refine ⟨g.u.setB _ _ (fun h => absurd h (by omega)), ?_⟩
          unfold GetOut
          rw [if_neg h64, if_pos (by simp [badH, h4])]
      · have m4' : ¬ (numAt l a 4 : Int) = 1112364030 := by omega
        simp [go_sem, g.hh, g.hz, hsz0, m4, m4']
        refine ⟨g.u.setB _ _ (fun h => absurd h (by omega)), ?_⟩
        unfold GetOut
        rw [if_neg h64, if_pos (by simp [badH, m4])]
end Go.Proofs.YtinfdomlpbikaaaGreatDoor
namespace Go.Proofs.YtinfdomlpbikaaaGreatDoor
open Go.Eng
set_option linter.unusedSimpArgs false
set_option linter.unusedVariables false
set_option maxRecDepth 100000
variable {w w0 : World}
def ansL (h : HeadV) (st : Int) : HeadV :=
  { charge := h.charge, status := IntKind.u32.wrap st, command := h.command, credits := 0, flags := if hasF h.flags 4 then 5 else 1, next := 0, id := h.id, async := 0, tree := if hasF h.flags 2 then 0 else h.tree, session := h.session, sign := zeroH.sign }
theorem ansL_ok (h : HeadV) (st : Int) (ok : h.ok) : (ansL h st).ok := by
  refine ⟨ok.charge, ?_, ok.command, (by decide : (0 : Int) ≤ 0 ∧ (0 : Int) < 65536), ?_, (by decide : (0 : Int) ≤ 0 ∧ (0 : Int) < 4294967296), ok.id, (by decide : (0 : Int) ≤ 0 ∧ (0 : Int) < 18446744073709551616), ?_, ok.session⟩
  · simp only [ansL, IntKind.wrap, IntKind.bits, IntKind.signed]; simp; omega
  · simp only [ansL]; split <;> decide
  · simp only [ansL]; have := ok.tree; split <;> omega
set_option maxHeartbeats 2000000 in
theorem answer_any (h : HeadV) (st : Int) (ok : h.ok) (w : World) : CallP Tryz.prog 21 #[.agg h.cells, .int .i64 st] w (fun r w' => r = .agg (ansL h st).cells ∧ Upd noB w w') := by
  have a2 := and_2 ok.flags.1 ok.flags.2
  have a4 := and_4 ok.flags.1 ok.flags.2
  have o5 : bits .or .u32 1 4 = 5 := by decide
  have o1 : bits .or .u32 1 0 = 1 := by decide
  have hsz0 : zeroH.cells.size = 26 := HeadV.size _
  refine call_den (args := [_, _]) Tryz.func21 rfl rfl (by simp [Tryz.ntmps21]) ?_
  simp [go_sem]
  refine gen_load ?_
  intro W hW
  obtain ⟨g, hg⟩ : ∃ g : HeadV, g = { charge := h.charge, status := IntKind.u32.wrap st, command := h.command, credits := 0, flags := bits .or .u32 1 (bits .and .u32 h.flags 4), next := 0, id := h.id, async := 0, tree := h.tree, session := h.session, sign := zeroH.sign } := ⟨_, rfl⟩
  have hu : Upd noB w W := by rw [hW]; exact (by repeat (first | exact Upd.refl _ _ | refine Upd.alloc ?_ _ | refine Upd.drew ?_ | refine Upd.drewN ?_ _ | refine Upd.setB ?_ _ _ (fun h => absurd h (by omega))))
  have hb : W.heap[w.heap.size]? = some (.cells h.cells 28 (0, 0)) := by rw [hW, heap_setB, if_neg (by omega), heap_alloc, if_neg (by simp; omega), heap_alloc, if_neg (by simp), heap_alloc, if_pos rfl]
  have hz : W.heap[w.heap.size + 1]? = some (.cells zeroH.cells 28 (0, 0)) := by rw [hW, heap_setB, if_neg (by omega), heap_alloc, if_neg (by simp), heap_alloc, if_pos (by simp)]
  have hh : W.heap[w.heap.size + 1 + 1]? = some (.cells g.cells 28 (0, 0)) := by rw [hW, heap_setB, if_pos rfl, heap_alloc, if_pos (by simp), hg]; rfl
  clear hW
  by_cases h4 : hasF h.flags 4
  · rw [a4, if_pos h4, o5] at hg
    by_cases h2 : hasF h.flags 2
    · simp [go_sem, hb, hz, hh, a2, h2, hsz0]
      refine ⟨?_, (hu.setB _ _ (fun h => absurd h (by omega))).setB _ _ (fun h => absurd h (by omega))⟩
      simp [ansL, h2, h4, hg]
    · simp [go_sem, hb, hz, hh, a2, h2, hsz0]
      refine ⟨?_, hu.setB _ _ (fun h => absurd h (by omega))⟩
      simp [ansL, h2, h4, hg]
  · rw [a4, if_neg h4, o1] at hg
    by_cases h2 : hasF h.flags 2
    · simp [go_sem, hb, hz, hh, a2, h2, hsz0]
      refine ⟨?_, (hu.setB _ _ (fun h => absurd h (by omega))).setB _ _ (fun h => absurd h (by omega))⟩
      simp [ansL, h2, h4, hg]
    · simp [go_sem, hb, hz, hh, a2, h2, hsz0]
      refine ⟨?_, hu.setB _ _ (fun h => absurd h (by omega))⟩
      simp [ansL, h2, h4, hg]
end Go.Proofs.YtinfdomlpbikaaaGreatDoor
namespace Go.Proofs.YtinfdomlpbikaaaGreatDoor
open Go.Eng
set_option linter.unusedSimpArgs false
set_option linter.unusedVariables false
set_option maxRecDepth 100000
/-- a slice -/
structure SlV where
  p : Option Addr
  n : Nat
  cap : Nat
def zArr (n : Nat) : Arr n := ⟨List.replicate n 0, by simp⟩
def SlV.val (s : SlV) : Value := .slice s.p s.n s.cap
structure AskV where
  dialects : SlV
  guid : Arr 16
  proof : Arr 32
  user : ByteArray
  share : ByteArray
  access : Int
  sharing : Int
  way : Int
  options : Int
  level : Int
  durable : Int
  file : Int
  name : ByteArray
  at_ : Int
  n : Int
  data : SlV
  locks : SlV
  most : Int
  pattern : ByteArray
  after : ByteArray
  cls : Int
  size_ : Int
  on : Bool
def AskV.row (a : AskV) : List Value := [.slice a.dialects.p a.dialects.n a.dialects.cap] ++ (a.guid.1.map u8V ++ (a.proof.1.map u8V ++ ([.string a.user, .string a.share, .int .u32 a.access, .int .u32 a.sharing, .int .u32 a.way, .int .u32 a.options, .int .u8 a.level, .int .u8 a.durable, .int .u64 a.file, .string a.name, .int .u64 a.at_, .int .u32 a.n, .slice a.data.p a.data.n a.data.cap, .slice a.locks.p a.locks.n a.locks.cap, .int .u16 a.most, .string a.pattern, .string a.after, .int .u16 a.cls, .int .u64 a.size_, .bool a.on])))
def AskV.cells (a : AskV) : Array Value := a.row.toArray
theorem AskV.row_len (a : AskV) : a.row.length = 69 := by simp [AskV.row, a.guid.2, a.proof.2]
@[go_sem] theorem AskV.size (a : AskV) : a.cells.size = 69 := by show a.row.length = 69; exact a.row_len
@[go_sem] theorem ask_ne (a : AskV) : (a.cells = #[]) = False := by
  refine eq_false (fun e => ?_)
  have := a.size
  rw [e] at this
  cases this
@[go_sem] theorem ask_one (a : AskV) : oneAll a.cells = true := by
  show (a.row.all fun v => v.oneCell') = true
  simp only [AskV.row, List.all_append, List.all_map]
  simp [Value.oneCell', u8V, SlV.val, Function.comp_def]
@[go_sem] theorem ask_arr (a : AskV) : a.row.toArray = a.cells := (rfl)
@[go_sem high] theorem ask_cut (a : AskV) (t : TypeId) (f : Nat × Nat) : cutIn (some (.cells a.cells t f)) 0 69 = some a.row := by
  rw [cutIn_some, if_pos (by rw [a.size]; omega)]
  show some ((a.row.drop 0).take 69) = some a.row
  rw [List.drop_zero, List.take_of_length_le (by rw [a.row_len]; omega)]
def zeroA : AskV := ⟨⟨none, 0, 0⟩, zArr 16, zArr 32, ByteArray.empty, ByteArray.empty, 0, 0, 0, 0, 0, 0, 0, ByteArray.empty, 0, 0, ⟨none, 0, 0⟩, ⟨none, 0, 0⟩, 0, ByteArray.empty, ByteArray.empty, 0, 0, false⟩
@[go_sem high] theorem ask_zero : (#[.slice none 0 0, .int .u8 0, .int .u8 0, .int .u8 0, .int .u8 0, .int .u8 0, .int .u8 0, .int .u8 0, .int .u8 0, .int .u8 0, .int .u8 0, .int .u8 0, .int .u8 0, .int .u8 0, .int .u8 0, .int .u8 0, .int .u8 0, .int .u8 0, .int .u8 0, .int .u8 0, .int .u8 0, .int .u8 0, .int .u8 0, .int .u8 0, .int .u8 0, .int .u8 0, .int .u8 0, .int .u8 0, .int .u8 0, .int .u8 0, .int .u8 0, .int .u8 0, .int .u8 0, .int .u8 0, .int .u8 0, .int .u8 0, .int .u8 0, .int .u8 0, .int .u8 0, .int .u8 0, .int .u8 0, .int .u8 0, .int .u8 0, .int .u8 0, .int .u8 0, .int .u8 0, .int .u8 0, .int .u8 0, .int .u8 0, .string ⟨#[]⟩, .string ⟨#[]⟩, .int .u32 0, .int .u32 0, .int .u32 0, .int .u32 0, .int .u8 0, .int .u8 0, .int .u64 0, .string ⟨#[]⟩, .int .u64 0, .int .u32 0, .slice none 0 0, .slice none 0 0, .int .u16 0, .string ⟨#[]⟩, .string ⟨#[]⟩, .int .u16 0, .int .u64 0, .bool false] : Array Value) = zeroA.cells := (rfl)
section
variable (a : AskV)
@[go_sem] theorem askq0 : a.cells[0]? = some (.slice a.dialects.p a.dialects.n a.dialects.cap) := by
  rw [show a.cells = a.row.toArray from rfl, List.getElem?_toArray]
  simp [AskV.row, List.getElem?_append]
@[go_sem] theorem askg0 (hp : 0 < a.cells.size) : a.cells[0] = .slice a.dialects.p a.dialects.n a.dialects.cap := Option.some.inj ((Array.getElem?_eq_getElem hp).symm.trans (askq0 a))
@[go_sem] theorem asks0 (p : Option Addr) (n c : Nat) : a.cells.setIfInBounds 0 (.slice p n c) = { a with dialects := ⟨p, n, c⟩ }.cells := by
  apply Array.toList_inj.1
  rw [Array.toList_setIfInBounds]
  show a.row.set 0 _ = _
  simp [AskV.cells, AskV.row, List.set_append]
@[go_sem] theorem askq49 : a.cells[49]? = some (.string a.user) := by
  rw [show a.cells = a.row.toArray from rfl, List.getElem?_toArray]
  simp [AskV.row, List.getElem?_append, a.guid.2, a.proof.2]
@[go_sem] theorem askg49 (hp : 49 < a.cells.size) : a.cells[49] = .string a.user := Option.some.inj ((Array.getElem?_eq_getElem hp).symm.trans (askq49 a))
@[go_sem] theorem asks49 (z : ByteArray) : a.cells.setIfInBounds 49 (.string z) = { a with user := z }.cells := by
  apply Array.toList_inj.1
  rw [Array.toList_setIfInBounds]
  show a.row.set 49 _ = _
  simp [AskV.cells, AskV.row, List.set_append, a.guid.2, a.proof.2]
@[go_sem] theorem askq50 : a.cells[50]? = some (.string a.share) := by
  rw [show a.cells = a.row.toArray from rfl, List.getElem?_toArray]
  simp [AskV.row, List.getElem?_append, a.guid.2, a.proof.2]
@[go_sem] theorem askg50 (hp : 50 < a.cells.size) : a.cells[50] = .string a.share := Option.some.inj ((Array.getElem?_eq_getElem hp).symm.trans (askq50 a))
@[go_sem] theorem asks50 (z : ByteArray) : a.cells.setIfInBounds 50 (.string z) = { a with share := z }.cells := by
  apply Array.toList_inj.1
  rw [Array.toList_setIfInBounds]
  show a.row.set 50 _ = _
  simp [AskV.cells, AskV.row, List.set_append, a.guid.2, a.proof.2]
@[go_sem] theorem askq51 : a.cells[51]? = some (.int .u32 a.access) := by
  rw [show a.cells = a.row.toArray from rfl, List.getElem?_toArray]
  simp [AskV.row, List.getElem?_append, a.guid.2, a.proof.2]
@[go_sem] theorem askg51 (hp : 51 < a.cells.size) : a.cells[51] = .int .u32 a.access := Option.some.inj ((Array.getElem?_eq_getElem hp).symm.trans (askq51 a))
@[go_sem] theorem asks51 (z : Int) : a.cells.setIfInBounds 51 (.int .u32 z) = { a with access := z }.cells := by
  apply Array.toList_inj.1
  rw [Array.toList_setIfInBounds]
  show a.row.set 51 _ = _
  simp [AskV.cells, AskV.row, List.set_append, a.guid.2, a.proof.2]
@[go_sem] theorem askq52 : a.cells[52]? = some (.int .u32 a.sharing) := by
  rw [show a.cells = a.row.toArray from rfl, List.getElem?_toArray]
  simp [AskV.row, List.getElem?_append, a.guid.2, a.proof.2]
@[go_sem] theorem askg52 (hp : 52 < a.cells.size) : a.cells[52] = .int .u32 a.sharing := Option.some.inj ((Array.getElem?_eq_getElem hp).symm.trans (askq52 a))
@[go_sem] theorem asks52 (z : Int) : a.cells.setIfInBounds 52 (.int .u32 z) = { a with sharing := z }.cells := by
  apply Array.toList_inj.1
  rw [Array.toList_setIfInBounds]
  show a.row.set 52 _ = _
  simp [AskV.cells, AskV.row, List.set_append, a.guid.2, a.proof.2]
@[go_sem] theorem askq53 : a.cells[53]? = some (.int .u32 a.way) := by
  rw [show a.cells = a.row.toArray from rfl, List.getElem?_toArray]
  simp [AskV.row, List.getElem?_append, a.guid.2, a.proof.2]
@[go_sem] theorem askg53 (hp : 53 < a.cells.size) : a.cells[53] = .int .u32 a.way := Option.some.inj ((Array.getElem?_eq_getElem hp).symm.trans (askq53 a))
@[go_sem] theorem asks53 (z : Int) : a.cells.setIfInBounds 53 (.int .u32 z) = { a with way := z }.cells := by
  apply Array.toList_inj.1
  rw [Array.toList_setIfInBounds]
  show a.row.set 53 _ = _
  simp [AskV.cells, AskV.row, List.set_append, a.guid.2, a.proof.2]
@[go_sem] theorem askq54 : a.cells[54]? = some (.int .u32 a.options) := by
  rw [show a.cells = a.row.toArray from rfl, List.getElem?_toArray]
  simp [AskV.row, List.getElem?_append, a.guid.2, a.proof.2]
@[go_sem] theorem askg54 (hp : 54 < a.cells.size) : a.cells[54] = .int .u32 a.options := Option.some.inj ((Array.getElem?_eq_getElem hp).symm.trans (askq54 a))
@[go_sem] theorem asks54 (z : Int) : a.cells.setIfInBounds 54 (.int .u32 z) = { a with options := z }.cells := by
  apply Array.toList_inj.1
  rw [Array.toList_setIfInBounds]
  show a.row.set 54 _ = _
  simp [AskV.cells, AskV.row, List.set_append, a.guid.2, a.proof.2]
@[go_sem] theorem askq55 : a.cells[55]? = some (.int .u8 a.level) := by
  rw [show a.cells = a.row.toArray from rfl, List.getElem?_toArray]
  simp [AskV.row, List.getElem?_append, a.guid.2, a.proof.2]
@[go_sem] theorem askg55 (hp : 55 < a.cells.size) : a.cells[55] = .int .u8 a.level := Option.some.inj ((Array.getElem?_eq_getElem hp).symm.trans (askq55 a))
@[go_sem] theorem asks55 (z : Int) : a.cells.setIfInBounds 55 (.int .u8 z) = { a with level := z }.cells := by
  apply Array.toList_inj.1
  rw [Array.toList_setIfInBounds]
  show a.row.set 55 _ = _
  simp [AskV.cells, AskV.row, List.set_append, a.guid.2, a.proof.2]
@[go_sem] theorem askq56 : a.cells[56]? = some (.int .u8 a.durable) := by
  rw [show a.cells = a.row.toArray from rfl, List.getElem?_toArray]
  simp [AskV.row, List.getElem?_append, a.guid.2, a.proof.2]
@[go_sem] theorem askg56 (hp : 56 < a.cells.size) : a.cells[56] = .int .u8 a.durable := Option.some.inj ((Array.getElem?_eq_getElem hp).symm.trans (askq56 a))
@[go_sem] theorem asks56 (z : Int) : a.cells.setIfInBounds 56 (.int .u8 z) = { a with durable := z }.cells := by
  apply Array.toList_inj.1
  rw [Array.toList_setIfInBounds]
  show a.row.set 56 _ = _
  simp [AskV.cells, AskV.row, List.set_append, a.guid.2, a.proof.2]
@[go_sem] theorem askq57 : a.cells[57]? = some (.int .u64 a.file) := by
  rw [show a.cells = a.row.toArray from rfl, List.getElem?_toArray]
  simp [AskV.row, List.getElem?_append, a.guid.2, a.proof.2]
@[go_sem] theorem askg57 (hp : 57 < a.cells.size) : a.cells[57] = .int .u64 a.file := Option.some.inj ((Array.getElem?_eq_getElem hp).symm.trans (askq57 a))
@[go_sem] theorem asks57 (z : Int) : a.cells.setIfInBounds 57 (.int .u64 z) = { a with file := z }.cells := by
  apply Array.toList_inj.1
  rw [Array.toList_setIfInBounds]
  show a.row.set 57 _ = _
  simp [AskV.cells, AskV.row, List.set_append, a.guid.2, a.proof.2]
@[go_sem] theorem askq58 : a.cells[58]? = some (.string a.name) := by
  rw [show a.cells = a.row.toArray from rfl, List.getElem?_toArray]
  simp [AskV.row, List.getElem?_append, a.guid.2, a.proof.2]
@[go_sem] theorem askg58 (hp : 58 < a.cells.size) : a.cells[58] = .string a.name := Option.some.inj ((Array.getElem?_eq_getElem hp).symm.trans (askq58 a))
@[go_sem] theorem asks58 (z : ByteArray) : a.cells.setIfInBounds 58 (.string z) = { a with name := z }.cells := by
  apply Array.toList_inj.1
  rw [Array.toList_setIfInBounds]
  show a.row.set 58 _ = _
  simp [AskV.cells, AskV.row, List.set_append, a.guid.2, a.proof.2]
@[go_sem] theorem askq59 : a.cells[59]? = some (.int .u64 a.at_) := by
  rw [show a.cells = a.row.toArray from rfl, List.getElem?_toArray]
  simp [AskV.row, List.getElem?_append, a.guid.2, a.proof.2]
@[go_sem] theorem askg59 (hp : 59 < a.cells.size) : a.cells[59] = .int .u64 a.at_ := Option.some.inj ((Array.getElem?_eq_getElem hp).symm.trans (askq59 a))
@[go_sem] theorem asks59 (z : Int) : a.cells.setIfInBounds 59 (.int .u64 z) = { a with at_ := z }.cells := by
  apply Array.toList_inj.1
  rw [Array.toList_setIfInBounds]
  show a.row.set 59 _ = _
  simp [AskV.cells, AskV.row, List.set_append, a.guid.2, a.proof.2]
@[go_sem] theorem askq60 : a.cells[60]? = some (.int .u32 a.n) := by
  rw [show a.cells = a.row.toArray from rfl, List.getElem?_toArray]
  simp [AskV.row, List.getElem?_append, a.guid.2, a.proof.2]
@[go_sem] theorem askg60 (hp : 60 < a.cells.size) : a.cells[60] = .int .u32 a.n := Option.some.inj ((Array.getElem?_eq_getElem hp).symm.trans (askq60 a))
@[go_sem] theorem asks60 (z : Int) : a.cells.setIfInBounds 60 (.int .u32 z) = { a with n := z }.cells := by
  apply Array.toList_inj.1
  rw [Array.toList_setIfInBounds]
  show a.row.set 60 _ = _
  simp [AskV.cells, AskV.row, List.set_append, a.guid.2, a.proof.2]
@[go_sem] theorem askq61 : a.cells[61]? = some (.slice a.data.p a.data.n a.data.cap) := by
  rw [show a.cells = a.row.toArray from rfl, List.getElem?_toArray]
  simp [AskV.row, List.getElem?_append, a.guid.2, a.proof.2]
@[go_sem] theorem askg61 (hp : 61 < a.cells.size) : a.cells[61] = .slice a.data.p a.data.n a.data.cap := Option.some.inj ((Array.getElem?_eq_getElem hp).symm.trans (askq61 a))
@[go_sem] theorem asks61 (p : Option Addr) (n c : Nat) : a.cells.setIfInBounds 61 (.slice p n c) = { a with data := ⟨p, n, c⟩ }.cells := by
  apply Array.toList_inj.1
  rw [Array.toList_setIfInBounds]
  show a.row.set 61 _ = _
  simp [AskV.cells, AskV.row, List.set_append, a.guid.2, a.proof.2]
@[go_sem] theorem askq62 : a.cells[62]? = some (.slice a.locks.p a.locks.n a.locks.cap) := by
  rw [show a.cells = a.row.toArray from rfl, List.getElem?_toArray]
  simp [AskV.row, List.getElem?_append, a.guid.2, a.proof.2]
@[go_sem] theorem askg62 (hp : 62 < a.cells.size) : a.cells[62] = .slice a.locks.p a.locks.n a.locks.cap := Option.some.inj ((Array.getElem?_eq_getElem hp).symm.trans (askq62 a))
@[go_sem] theorem asks62 (p : Option Addr) (n c : Nat) : a.cells.setIfInBounds 62 (.slice p n c) = { a with locks := ⟨p, n, c⟩ }.cells := by
  apply Array.toList_inj.1
  rw [Array.toList_setIfInBounds]
  show a.row.set 62 _ = _
  simp [AskV.cells, AskV.row, List.set_append, a.guid.2, a.proof.2]
@[go_sem] theorem askq63 : a.cells[63]? = some (.int .u16 a.most) := by
  rw [show a.cells = a.row.toArray from rfl, List.getElem?_toArray]
  simp [AskV.row, List.getElem?_append, a.guid.2, a.proof.2]
@[go_sem] theorem askg63 (hp : 63 < a.cells.size) : a.cells[63] = .int .u16 a.most := Option.some.inj ((Array.getElem?_eq_getElem hp).symm.trans (askq63 a))
@[go_sem] theorem asks63 (z : Int) : a.cells.setIfInBounds 63 (.int .u16 z) = { a with most := z }.cells := by
  apply Array.toList_inj.1
  rw [Array.toList_setIfInBounds]
  show a.row.set 63 _ = _
  simp [AskV.cells, AskV.row, List.set_append, a.guid.2, a.proof.2]
@[go_sem] theorem askq64 : a.cells[64]? = some (.string a.pattern) := by
  rw [show a.cells = a.row.toArray from rfl, List.getElem?_toArray]
  simp [AskV.row, List.getElem?_append, a.guid.2, a.proof.2]
@[go_sem] theorem askg64 (hp : 64 < a.cells.size) : a.cells[64] = .string a.pattern := Option.some.inj ((Array.getElem?_eq_getElem hp).symm.trans (askq64 a))
@[go_sem] theorem asks64 (z : ByteArray) : a.cells.setIfInBounds 64 (.string z) = { a with pattern := z }.cells := by
  apply Array.toList_inj.1
  rw [Array.toList_setIfInBounds]
  show a.row.set 64 _ = _
  simp [AskV.cells, AskV.row, List.set_append, a.guid.2, a.proof.2]
@[go_sem] theorem askq65 : a.cells[65]? = some (.string a.after) := by
  rw [show a.cells = a.row.toArray from rfl, List.getElem?_toArray]
  simp [AskV.row, List.getElem?_append, a.guid.2, a.proof.2]
@[go_sem] theorem askg65 (hp : 65 < a.cells.size) : a.cells[65] = .string a.after := Option.some.inj ((Array.getElem?_eq_getElem hp).symm.trans (askq65 a))
@[go_sem] theorem asks65 (z : ByteArray) : a.cells.setIfInBounds 65 (.string z) = { a with after := z }.cells := by
  apply Array.toList_inj.1
  rw [Array.toList_setIfInBounds]
  show a.row.set 65 _ = _
  simp [AskV.cells, AskV.row, List.set_append, a.guid.2, a.proof.2]
@[go_sem] theorem askq66 : a.cells[66]? = some (.int .u16 a.cls) := by
  rw [show a.cells = a.row.toArray from rfl, List.getElem?_toArray]
  simp [AskV.row, List.getElem?_append, a.guid.2, a.proof.2]
@[go_sem] theorem askg66 (hp : 66 < a.cells.size) : a.cells[66] = .int .u16 a.cls := Option.some.inj ((Array.getElem?_eq_getElem hp).symm.trans (askq66 a))
@[go_sem] theorem asks66 (z : Int) : a.cells.setIfInBounds 66 (.int .u16 z) = { a with cls := z }.cells := by
  apply Array.toList_inj.1
  rw [Array.toList_setIfInBounds]
  show a.row.set 66 _ = _
  simp [AskV.cells, AskV.row, List.set_append, a.guid.2, a.proof.2]
@[go_sem] theorem askq67 : a.cells[67]? = some (.int .u64 a.size_) := by
  rw [show a.cells = a.row.toArray from rfl, List.getElem?_toArray]
  simp [AskV.row, List.getElem?_append, a.guid.2, a.proof.2]
@[go_sem] theorem askg67 (hp : 67 < a.cells.size) : a.cells[67] = .int .u64 a.size_ := Option.some.inj ((Array.getElem?_eq_getElem hp).symm.trans (askq67 a))
@[go_sem] theorem asks67 (z : Int) : a.cells.setIfInBounds 67 (.int .u64 z) = { a with size_ := z }.cells := by
  apply Array.toList_inj.1
  rw [Array.toList_setIfInBounds]
  show a.row.set 67 _ = _
  simp [AskV.cells, AskV.row, List.set_append, a.guid.2, a.proof.2]
@[go_sem] theorem askq68 : a.cells[68]? = some (.bool a.on) := by
  rw [show a.cells = a.row.toArray from rfl, List.getElem?_toArray]
  simp [AskV.row, List.getElem?_append, a.guid.2, a.proof.2]
@[go_sem] theorem askg68 (hp : 68 < a.cells.size) : a.cells[68] = .bool a.on := Option.some.inj ((Array.getElem?_eq_getElem hp).symm.trans (askq68 a))
@[go_sem] theorem asks68 (z : Bool) : a.cells.setIfInBounds 68 (.bool z) = { a with on := z }.cells := by
  apply Array.toList_inj.1
  rw [Array.toList_setIfInBounds]
  show a.row.set 68 _ = _
  simp [AskV.cells, AskV.row, List.set_append, a.guid.2, a.proof.2]
end

structure SayV where
  dialect : Int
  size_ : Int
  challenge : Arr 8
  level : Int
  durable : Int
  made : Int
  file : Int
  kind : Int
  data : SlV
  n : Int
  entries : SlV
  more : Bool
  gone : Bool
def SayV.row (a : SayV) : List Value := [.int .u16 a.dialect, .int .u64 a.size_] ++ (a.challenge.1.map u8V ++ ([.int .u8 a.level, .int .u8 a.durable, .int .u16 a.made, .int .u64 a.file, .int .u8 a.kind, .slice a.data.p a.data.n a.data.cap, .int .u32 a.n, .slice a.entries.p a.entries.n a.entries.cap, .bool a.more, .bool a.gone]))
def SayV.cells (a : SayV) : Array Value := a.row.toArray
theorem SayV.row_len (a : SayV) : a.row.length = 20 := by simp [SayV.row, a.challenge.2]
@[go_sem] theorem SayV.size (a : SayV) : a.cells.size = 20 := by show a.row.length = 20; exact a.row_len
@[go_sem] theorem say_ne (a : SayV) : (a.cells = #[]) = False := by
  refine eq_false (fun e => ?_)
  have := a.size
  rw [e] at this
  cases this
@[go_sem] theorem say_one (a : SayV) : oneAll a.cells = true := by
  show (a.row.all fun v => v.oneCell') = true
  simp only [SayV.row, List.all_append, List.all_map]
  simp [Value.oneCell', u8V, SlV.val, Function.comp_def]
@[go_sem] theorem say_arr (a : SayV) : a.row.toArray = a.cells := (rfl)
@[go_sem high] theorem say_cut (a : SayV) (t : TypeId) (f : Nat × Nat) : cutIn (some (.cells a.cells t f)) 0 20 = some a.row := by
  rw [cutIn_some, if_pos (by rw [a.size]; omega)]
  show some ((a.row.drop 0).take 20) = some a.row
  rw [List.drop_zero, List.take_of_length_le (by rw [a.row_len]; omega)]
def zeroS : SayV := ⟨0, 0, zArr 8, 0, 0, 0, 0, 0, ⟨none, 0, 0⟩, 0, ⟨none, 0, 0⟩, false, false⟩
@[go_sem high] theorem say_zero : (#[.int .u16 0, .int .u64 0, .int .u8 0, .int .u8 0, .int .u8 0, .int .u8 0, .int .u8 0, .int .u8 0, .int .u8 0, .int .u8 0, .int .u8 0, .int .u8 0, .int .u16 0, .int .u64 0, .int .u8 0, .slice none 0 0, .int .u32 0, .slice none 0 0, .bool false, .bool false] : Array Value) = zeroS.cells := (rfl)
section
variable (a : SayV)
@[go_sem] theorem sayq0 : a.cells[0]? = some (.int .u16 a.dialect) := by
  rw [show a.cells = a.row.toArray from rfl, List.getElem?_toArray]
  simp [SayV.row, List.getElem?_append]
@[go_sem] theorem sayg0 (hp : 0 < a.cells.size) : a.cells[0] = .int .u16 a.dialect := Option.some.inj ((Array.getElem?_eq_getElem hp).symm.trans (sayq0 a))
@[go_sem] theorem says0 (z : Int) : a.cells.setIfInBounds 0 (.int .u16 z) = { a with dialect := z }.cells := by
  apply Array.toList_inj.1
  rw [Array.toList_setIfInBounds]
  show a.row.set 0 _ = _
  simp [SayV.cells, SayV.row, List.set_append]
@[go_sem] theorem sayq1 : a.cells[1]? = some (.int .u64 a.size_) := by
  rw [show a.cells = a.row.toArray from rfl, List.getElem?_toArray]
  simp [SayV.row, List.getElem?_append]
@[go_sem] theorem sayg1 (hp : 1 < a.cells.size) : a.cells[1] = .int .u64 a.size_ := Option.some.inj ((Array.getElem?_eq_getElem hp).symm.trans (sayq1 a))
@[go_sem] theorem says1 (z : Int) : a.cells.setIfInBounds 1 (.int .u64 z) = { a with size_ := z }.cells := by
  apply Array.toList_inj.1
  rw [Array.toList_setIfInBounds]
  show a.row.set 1 _ = _
  simp [SayV.cells, SayV.row, List.set_append]
@[go_sem] theorem sayq10 : a.cells[10]? = some (.int .u8 a.level) := by
  rw [show a.cells = a.row.toArray from rfl, List.getElem?_toArray]
  simp [SayV.row, List.getElem?_append, a.challenge.2]
@[go_sem] theorem sayg10 (hp : 10 < a.cells.size) : a.cells[10] = .int .u8 a.level := Option.some.inj ((Array.getElem?_eq_getElem hp).symm.trans (sayq10 a))
@[go_sem] theorem says10 (z : Int) : a.cells.setIfInBounds 10 (.int .u8 z) = { a with level := z }.cells := by
  apply Array.toList_inj.1
  rw [Array.toList_setIfInBounds]
  show a.row.set 10 _ = _
  simp [SayV.cells, SayV.row, List.set_append, a.challenge.2]
@[go_sem] theorem sayq11 : a.cells[11]? = some (.int .u8 a.durable) := by
  rw [show a.cells = a.row.toArray from rfl, List.getElem?_toArray]
  simp [SayV.row, List.getElem?_append, a.challenge.2]
@[go_sem] theorem sayg11 (hp : 11 < a.cells.size) : a.cells[11] = .int .u8 a.durable := Option.some.inj ((Array.getElem?_eq_getElem hp).symm.trans (sayq11 a))
@[go_sem] theorem says11 (z : Int) : a.cells.setIfInBounds 11 (.int .u8 z) = { a with durable := z }.cells := by
  apply Array.toList_inj.1
  rw [Array.toList_setIfInBounds]
  show a.row.set 11 _ = _
  simp [SayV.cells, SayV.row, List.set_append, a.challenge.2]
@[go_sem] theorem sayq12 : a.cells[12]? = some (.int .u16 a.made) := by
  rw [show a.cells = a.row.toArray from rfl, List.getElem?_toArray]
  simp [SayV.row, List.getElem?_append, a.challenge.2]
@[go_sem] theorem sayg12 (hp : 12 < a.cells.size) : a.cells[12] = .int .u16 a.made := Option.some.inj ((Array.getElem?_eq_getElem hp).symm.trans (sayq12 a))
@[go_sem] theorem says12 (z : Int) : a.cells.setIfInBounds 12 (.int .u16 z) = { a with made := z }.cells := by
  apply Array.toList_inj.1
  rw [Array.toList_setIfInBounds]
  show a.row.set 12 _ = _
  simp [SayV.cells, SayV.row, List.set_append, a.challenge.2]
@[go_sem] theorem sayq13 : a.cells[13]? = some (.int .u64 a.file) := by
  rw [show a.cells = a.row.toArray from rfl, List.getElem?_toArray]
  simp [SayV.row, List.getElem?_append, a.challenge.2]
@[go_sem] theorem sayg13 (hp : 13 < a.cells.size) : a.cells[13] = .int .u64 a.file := Option.some.inj ((Array.getElem?_eq_getElem hp).symm.trans (sayq13 a))
@[go_sem] theorem says13 (z : Int) : a.cells.setIfInBounds 13 (.int .u64 z) = { a with file := z }.cells := by
  apply Array.toList_inj.1
  rw [Array.toList_setIfInBounds]
  show a.row.set 13 _ = _
  simp [SayV.cells, SayV.row, List.set_append, a.challenge.2]
@[go_sem] theorem sayq14 : a.cells[14]? = some (.int .u8 a.kind) := by
  rw [show a.cells = a.row.toArray from rfl, List.getElem?_toArray]
  simp [SayV.row, List.getElem?_append, a.challenge.2]
@[go_sem] theorem sayg14 (hp : 14 < a.cells.size) : a.cells[14] = .int .u8 a.kind := Option.some.inj ((Array.getElem?_eq_getElem hp).symm.trans (sayq14 a))
@[go_sem] theorem says14 (z : Int) : a.cells.setIfInBounds 14 (.int .u8 z) = { a with kind := z }.cells := by
  apply Array.toList_inj.1
  rw [Array.toList_setIfInBounds]
  show a.row.set 14 _ = _
  simp [SayV.cells, SayV.row, List.set_append, a.challenge.2]
@[go_sem] theorem sayq15 : a.cells[15]? = some (.slice a.data.p a.data.n a.data.cap) := by
  rw [show a.cells = a.row.toArray from rfl, List.getElem?_toArray]
  simp [SayV.row, List.getElem?_append, a.challenge.2]
@[go_sem] theorem sayg15 (hp : 15 < a.cells.size) : a.cells[15] = .slice a.data.p a.data.n a.data.cap := Option.some.inj ((Array.getElem?_eq_getElem hp).symm.trans (sayq15 a))
@[go_sem] theorem says15 (p : Option Addr) (n c : Nat) : a.cells.setIfInBounds 15 (.slice p n c) = { a with data := ⟨p, n, c⟩ }.cells := by
  apply Array.toList_inj.1
  rw [Array.toList_setIfInBounds]
  show a.row.set 15 _ = _
  simp [SayV.cells, SayV.row, List.set_append, a.challenge.2]
@[go_sem] theorem sayq16 : a.cells[16]? = some (.int .u32 a.n) := by
  rw [show a.cells = a.row.toArray from rfl, List.getElem?_toArray]
  simp [SayV.row, List.getElem?_append, a.challenge.2]
@[go_sem] theorem sayg16 (hp : 16 < a.cells.size) : a.cells[16] = .int .u32 a.n := Option.some.inj ((Array.getElem?_eq_getElem hp).symm.trans (sayq16 a))
@[go_sem] theorem says16 (z : Int) : a.cells.setIfInBounds 16 (.int .u32 z) = { a with n := z }.cells := by
  apply Array.toList_inj.1
  rw [Array.toList_setIfInBounds]
  show a.row.set 16 _ = _
  simp [SayV.cells, SayV.row, List.set_append, a.challenge.2]
@[go_sem] theorem sayq17 : a.cells[17]? = some (.slice a.entries.p a.entries.n a.entries.cap) := by
  rw [show a.cells = a.row.toArray from rfl, List.getElem?_toArray]
  simp [SayV.row, List.getElem?_append, a.challenge.2]
@[go_sem] theorem sayg17 (hp : 17 < a.cells.size) : a.cells[17] = .slice a.entries.p a.entries.n a.entries.cap := Option.some.inj ((Array.getElem?_eq_getElem hp).symm.trans (sayq17 a))
@[go_sem] theorem says17 (p : Option Addr) (n c : Nat) : a.cells.setIfInBounds 17 (.slice p n c) = { a with entries := ⟨p, n, c⟩ }.cells := by
  apply Array.toList_inj.1
  rw [Array.toList_setIfInBounds]
  show a.row.set 17 _ = _
  simp [SayV.cells, SayV.row, List.set_append, a.challenge.2]
@[go_sem] theorem sayq18 : a.cells[18]? = some (.bool a.more) := by
  rw [show a.cells = a.row.toArray from rfl, List.getElem?_toArray]
  simp [SayV.row, List.getElem?_append, a.challenge.2]
@[go_sem] theorem sayg18 (hp : 18 < a.cells.size) : a.cells[18] = .bool a.more := Option.some.inj ((Array.getElem?_eq_getElem hp).symm.trans (sayq18 a))
@[go_sem] theorem says18 (z : Bool) : a.cells.setIfInBounds 18 (.bool z) = { a with more := z }.cells := by
  apply Array.toList_inj.1
  rw [Array.toList_setIfInBounds]
  show a.row.set 18 _ = _
  simp [SayV.cells, SayV.row, List.set_append, a.challenge.2]
@[go_sem] theorem sayq19 : a.cells[19]? = some (.bool a.gone) := by
  rw [show a.cells = a.row.toArray from rfl, List.getElem?_toArray]
  simp [SayV.row, List.getElem?_append, a.challenge.2]
@[go_sem] theorem sayg19 (hp : 19 < a.cells.size) : a.cells[19] = .bool a.gone := Option.some.inj ((Array.getElem?_eq_getElem hp).symm.trans (sayq19 a))
@[go_sem] theorem says19 (z : Bool) : a.cells.setIfInBounds 19 (.bool z) = { a with gone := z }.cells := by
  apply Array.toList_inj.1
  rw [Array.toList_setIfInBounds]
  show a.row.set 19 _ = _
  simp [SayV.cells, SayV.row, List.set_append, a.challenge.2]
end

structure MsgV where
  head : HeadV
  ask : AskV
  say : SayV
def MsgV.row (m : MsgV) : List Value := m.head.row ++ (m.ask.row ++ m.say.row)
def MsgV.cells (m : MsgV) : Array Value := m.row.toArray
theorem head_row_len (h : HeadV) : h.row.length = 26 := by simp [HeadV.row, h.sign.2]
theorem MsgV.row_len (m : MsgV) : m.row.length = 115 := by simp [MsgV.row, head_row_len, AskV.row_len, SayV.row_len]
@[go_sem] theorem MsgV.size (m : MsgV) : m.cells.size = 115 := by show m.row.length = 115; exact m.row_len
@[go_sem] theorem msg_ne (m : MsgV) : (m.cells = #[]) = False := by
  refine eq_false (fun e => ?_)
  have := m.size
  rw [e] at this
  cases this
@[go_sem] theorem msg_one (m : MsgV) : oneAll m.cells = true := by
  have h1 := head_one m.head
  have h2 := ask_one m.ask
  have h3 := say_one m.say
  have e1 : m.head.row.all (fun v => v.oneCell') = true := h1
  have e2 : m.ask.row.all (fun v => v.oneCell') = true := h2
  have e3 : m.say.row.all (fun v => v.oneCell') = true := h3
  show (m.row.all fun v => v.oneCell') = true
  simp only [MsgV.row, List.all_append, e1, e2, e3]
  rfl
@[go_sem] theorem msg_arr (m : MsgV) : m.row.toArray = m.cells := (rfl)
@[go_sem high] theorem msg_cut (m : MsgV) (t : TypeId) (f : Nat × Nat) : cutIn (some (.cells m.cells t f)) 0 115 = some m.row := by
  rw [cutIn_some, if_pos (by rw [m.size]; omega)]
  show some ((m.row.drop 0).take 115) = some m.row
  rw [List.drop_zero, List.take_of_length_le (by rw [m.row_len]; omega)]
@[go_sem high] theorem msg_cut0 (m : MsgV) (t : TypeId) (f : Nat × Nat) : cutIn (some (.cells m.cells t f)) 0 26 = some m.head.row := by
  rw [cutIn_some, if_pos (by rw [m.size]; omega)]
  show some ((m.row.drop 0).take 26) = some m.head.row
  rw [List.drop_zero, MsgV.row, List.take_left' (head_row_len _)]
@[go_sem high] theorem msg_cut1 (m : MsgV) (t : TypeId) (f : Nat × Nat) : cutIn (some (.cells m.cells t f)) 26 69 = some m.ask.row := by
  rw [cutIn_some, if_pos (by rw [m.size]; omega)]
  show some ((m.row.drop 26).take 69) = some m.ask.row
  rw [MsgV.row, List.drop_left' (head_row_len _), List.take_left' (AskV.row_len _)]
@[go_sem high] theorem msg_cut2 (m : MsgV) (t : TypeId) (f : Nat × Nat) : cutIn (some (.cells m.cells t f)) 95 20 = some m.say.row := by
  rw [cutIn_some, if_pos (by rw [m.size]; omega)]
  show some ((m.row.drop 95).take 20) = some m.say.row
  have e : (m.head.row ++ m.ask.row).length = 95 := by rw [List.length_append, head_row_len, AskV.row_len]
  rw [MsgV.row, ← List.append_assoc, List.drop_left' e, List.take_of_length_le (by rw [SayV.row_len]; omega)]
def zeroM : MsgV := ⟨zeroH, zeroA, zeroS⟩
@[go_sem high] theorem msg_zero : (#[.int .u16 0, .int .u32 0, .int .u16 0, .int .u16 0, .int .u32 0, .int .u32 0, .int .u64 0, .int .u64 0, .int .u32 0, .int .u64 0, .int .u8 0, .int .u8 0, .int .u8 0, .int .u8 0, .int .u8 0, .int .u8 0, .int .u8 0, .int .u8 0, .int .u8 0, .int .u8 0, .int .u8 0, .int .u8 0, .int .u8 0, .int .u8 0, .int .u8 0, .int .u8 0, .slice none 0 0, .int .u8 0, .int .u8 0, .int .u8 0, .int .u8 0, .int .u8 0, .int .u8 0, .int .u8 0, .int .u8 0, .int .u8 0, .int .u8 0, .int .u8 0, .int .u8 0, .int .u8 0, .int .u8 0, .int .u8 0, .int .u8 0, .int .u8 0, .int .u8 0, .int .u8 0, .int .u8 0, .int .u8 0, .int .u8 0, .int .u8 0, .int .u8 0, .int .u8 0, .int .u8 0, .int .u8 0, .int .u8 0, .int .u8 0, .int .u8 0, .int .u8 0, .int .u8 0, .int .u8 0, .int .u8 0, .int .u8 0, .int .u8 0, .int .u8 0, .int .u8 0, .int .u8 0, .int .u8 0, .int .u8 0, .int .u8 0, .int .u8 0, .int .u8 0, .int .u8 0, .int .u8 0, .int .u8 0, .int .u8 0, .string ⟨#[]⟩, .string ⟨#[]⟩, .int .u32 0, .int .u32 0, .int .u32 0, .int .u32 0, .int .u8 0, .int .u8 0, .int .u64 0, .string ⟨#[]⟩, .int .u64 0, .int .u32 0, .slice none 0 0, .slice none 0 0, .int .u16 0, .string ⟨#[]⟩, .string ⟨#[]⟩, .int .u16 0, .int .u64 0, .bool false, .int .u16 0, .int .u64 0, .int .u8 0, .int .u8 0, .int .u8 0, .int .u8 0, .int .u8 0, .int .u8 0, .int .u8 0, .int .u8 0, .int .u8 0, .int .u8 0, .int .u16 0, .int .u64 0, .int .u8 0, .slice none 0 0, .int .u32 0, .slice none 0 0, .bool false, .bool false] : Array Value) = zeroM.cells := (rfl)
section
variable (m : MsgV)
@[go_sem] theorem msgq0 : m.cells[0]? = some (.int .u16 m.head.charge) := by
  rw [show m.cells = m.row.toArray from rfl, List.getElem?_toArray, MsgV.row, List.getElem?_append_left (by rw [head_row_len]; omega)]
  have h := hd0 m.head
  rw [show m.head.cells = m.head.row.toArray from rfl, List.getElem?_toArray] at h
  exact h
@[go_sem] theorem msgg0 (hp : 0 < m.cells.size) : m.cells[0] = .int .u16 m.head.charge := Option.some.inj ((Array.getElem?_eq_getElem hp).symm.trans (msgq0 m))
@[go_sem] theorem msgq1 : m.cells[1]? = some (.int .u32 m.head.status) := by
  rw [show m.cells = m.row.toArray from rfl, List.getElem?_toArray, MsgV.row, List.getElem?_append_left (by rw [head_row_len]; omega)]
  have h := hd1 m.head
  rw [show m.head.cells = m.head.row.toArray from rfl, List.getElem?_toArray] at h
  exact h
@[go_sem] theorem msgg1 (hp : 1 < m.cells.size) : m.cells[1] = .int .u32 m.head.status := Option.some.inj ((Array.getElem?_eq_getElem hp).symm.trans (msgq1 m))
@[go_sem] theorem msgq2 : m.cells[2]? = some (.int .u16 m.head.command) := by
  rw [show m.cells = m.row.toArray from rfl, List.getElem?_toArray, MsgV.row, List.getElem?_append_left (by rw [head_row_len]; omega)]
  have h := hd2 m.head
  rw [show m.head.cells = m.head.row.toArray from rfl, List.getElem?_toArray] at h
  exact h
@[go_sem] theorem msgg2 (hp : 2 < m.cells.size) : m.cells[2] = .int .u16 m.head.command := Option.some.inj ((Array.getElem?_eq_getElem hp).symm.trans (msgq2 m))
@[go_sem] theorem msgq3 : m.cells[3]? = some (.int .u16 m.head.credits) := by
  rw [show m.cells = m.row.toArray from rfl, List.getElem?_toArray, MsgV.row, List.getElem?_append_left (by rw [head_row_len]; omega)]
  have h := hd3 m.head
  rw [show m.head.cells = m.head.row.toArray from rfl, List.getElem?_toArray] at h
  exact h
@[go_sem] theorem msgg3 (hp : 3 < m.cells.size) : m.cells[3] = .int .u16 m.head.credits := Option.some.inj ((Array.getElem?_eq_getElem hp).symm.trans (msgq3 m))
@[go_sem] theorem msgq4 : m.cells[4]? = some (.int .u32 m.head.flags) := by
  rw [show m.cells = m.row.toArray from rfl, List.getElem?_toArray, MsgV.row, List.getElem?_append_left (by rw [head_row_len]; omega)]
  have h := hd4 m.head
  rw [show m.head.cells = m.head.row.toArray from rfl, List.getElem?_toArray] at h
  exact h
@[go_sem] theorem msgg4 (hp : 4 < m.cells.size) : m.cells[4] = .int .u32 m.head.flags := Option.some.inj ((Array.getElem?_eq_getElem hp).symm.trans (msgq4 m))
@[go_sem] theorem msgq5 : m.cells[5]? = some (.int .u32 m.head.next) := by
  rw [show m.cells = m.row.toArray from rfl, List.getElem?_toArray, MsgV.row, List.getElem?_append_left (by rw [head_row_len]; omega)]
  have h := hd5 m.head
  rw [show m.head.cells = m.head.row.toArray from rfl, List.getElem?_toArray] at h
  exact h
@[go_sem] theorem msgg5 (hp : 5 < m.cells.size) : m.cells[5] = .int .u32 m.head.next := Option.some.inj ((Array.getElem?_eq_getElem hp).symm.trans (msgq5 m))
@[go_sem] theorem msgq6 : m.cells[6]? = some (.int .u64 m.head.id) := by
  rw [show m.cells = m.row.toArray from rfl, List.getElem?_toArray, MsgV.row, List.getElem?_append_left (by rw [head_row_len]; omega)]
  have h := hd6 m.head
  rw [show m.head.cells = m.head.row.toArray from rfl, List.getElem?_toArray] at h
  exact h
@[go_sem] theorem msgg6 (hp : 6 < m.cells.size) : m.cells[6] = .int .u64 m.head.id := Option.some.inj ((Array.getElem?_eq_getElem hp).symm.trans (msgq6 m))
@[go_sem] theorem msgq7 : m.cells[7]? = some (.int .u64 m.head.async) := by
  rw [show m.cells = m.row.toArray from rfl, List.getElem?_toArray, MsgV.row, List.getElem?_append_left (by rw [head_row_len]; omega)]
  have h := hd7 m.head
  rw [show m.head.cells = m.head.row.toArray from rfl, List.getElem?_toArray] at h
  exact h
@[go_sem] theorem msgg7 (hp : 7 < m.cells.size) : m.cells[7] = .int .u64 m.head.async := Option.some.inj ((Array.getElem?_eq_getElem hp).symm.trans (msgq7 m))
@[go_sem] theorem msgq8 : m.cells[8]? = some (.int .u32 m.head.tree) := by
  rw [show m.cells = m.row.toArray from rfl, List.getElem?_toArray, MsgV.row, List.getElem?_append_left (by rw [head_row_len]; omega)]
  have h := hd8 m.head
  rw [show m.head.cells = m.head.row.toArray from rfl, List.getElem?_toArray] at h
  exact h
@[go_sem] theorem msgg8 (hp : 8 < m.cells.size) : m.cells[8] = .int .u32 m.head.tree := Option.some.inj ((Array.getElem?_eq_getElem hp).symm.trans (msgq8 m))
@[go_sem] theorem msgq9 : m.cells[9]? = some (.int .u64 m.head.session) := by
  rw [show m.cells = m.row.toArray from rfl, List.getElem?_toArray, MsgV.row, List.getElem?_append_left (by rw [head_row_len]; omega)]
  have h := hd9 m.head
  rw [show m.head.cells = m.head.row.toArray from rfl, List.getElem?_toArray] at h
  exact h
@[go_sem] theorem msgg9 (hp : 9 < m.cells.size) : m.cells[9] = .int .u64 m.head.session := Option.some.inj ((Array.getElem?_eq_getElem hp).symm.trans (msgq9 m))
@[go_sem] theorem msgq26 : m.cells[26]? = some (.slice m.ask.dialects.p m.ask.dialects.n m.ask.dialects.cap) := by
  rw [show m.cells = m.row.toArray from rfl, List.getElem?_toArray, MsgV.row, List.getElem?_append_right (by rw [head_row_len]; omega), head_row_len, List.getElem?_append_left (by rw [AskV.row_len]; omega)]
  have h := askq0 m.ask
  rw [show m.ask.cells = m.ask.row.toArray from rfl, List.getElem?_toArray] at h
  exact h
@[go_sem] theorem msgg26 (hp : 26 < m.cells.size) : m.cells[26] = .slice m.ask.dialects.p m.ask.dialects.n m.ask.dialects.cap := Option.some.inj ((Array.getElem?_eq_getElem hp).symm.trans (msgq26 m))
@[go_sem] theorem msgq75 : m.cells[75]? = some (.string m.ask.user) := by
  rw [show m.cells = m.row.toArray from rfl, List.getElem?_toArray, MsgV.row, List.getElem?_append_right (by rw [head_row_len]; omega), head_row_len, List.getElem?_append_left (by rw [AskV.row_len]; omega)]
  have h := askq49 m.ask
  rw [show m.ask.cells = m.ask.row.toArray from rfl, List.getElem?_toArray] at h
  exact h
@[go_sem] theorem msgg75 (hp : 75 < m.cells.size) : m.cells[75] = .string m.ask.user := Option.some.inj ((Array.getElem?_eq_getElem hp).symm.trans (msgq75 m))
@[go_sem] theorem msgq76 : m.cells[76]? = some (.string m.ask.share) := by
  rw [show m.cells = m.row.toArray from rfl, List.getElem?_toArray, MsgV.row, List.getElem?_append_right (by rw [head_row_len]; omega), head_row_len, List.getElem?_append_left (by rw [AskV.row_len]; omega)]
  have h := askq50 m.ask
  rw [show m.ask.cells = m.ask.row.toArray from rfl, List.getElem?_toArray] at h
  exact h
@[go_sem] theorem msgg76 (hp : 76 < m.cells.size) : m.cells[76] = .string m.ask.share := Option.some.inj ((Array.getElem?_eq_getElem hp).symm.trans (msgq76 m))
@[go_sem] theorem msgq77 : m.cells[77]? = some (.int .u32 m.ask.access) := by
  rw [show m.cells = m.row.toArray from rfl, List.getElem?_toArray, MsgV.row, List.getElem?_append_right (by rw [head_row_len]; omega), head_row_len, List.getElem?_append_left (by rw [AskV.row_len]; omega)]
  have h := askq51 m.ask
  rw [show m.ask.cells = m.ask.row.toArray from rfl, List.getElem?_toArray] at h
  exact h
@[go_sem] theorem msgg77 (hp : 77 < m.cells.size) : m.cells[77] = .int .u32 m.ask.access := Option.some.inj ((Array.getElem?_eq_getElem hp).symm.trans (msgq77 m))
@[go_sem] theorem msgq78 : m.cells[78]? = some (.int .u32 m.ask.sharing) := by
  rw [show m.cells = m.row.toArray from rfl, List.getElem?_toArray, MsgV.row, List.getElem?_append_right (by rw [head_row_len]; omega), head_row_len, List.getElem?_append_left (by rw [AskV.row_len]; omega)]
  have h := askq52 m.ask
  rw [show m.ask.cells = m.ask.row.toArray from rfl, List.getElem?_toArray] at h
  exact h
@[go_sem] theorem msgg78 (hp : 78 < m.cells.size) : m.cells[78] = .int .u32 m.ask.sharing := Option.some.inj ((Array.getElem?_eq_getElem hp).symm.trans (msgq78 m))
@[go_sem] theorem msgq79 : m.cells[79]? = some (.int .u32 m.ask.way) := by
  rw [show m.cells = m.row.toArray from rfl, List.getElem?_toArray, MsgV.row, List.getElem?_append_right (by rw [head_row_len]; omega), head_row_len, List.getElem?_append_left (by rw [AskV.row_len]; omega)]
  have h := askq53 m.ask
  rw [show m.ask.cells = m.ask.row.toArray from rfl, List.getElem?_toArray] at h
  exact h
@[go_sem] theorem msgg79 (hp : 79 < m.cells.size) : m.cells[79] = .int .u32 m.ask.way := Option.some.inj ((Array.getElem?_eq_getElem hp).symm.trans (msgq79 m))
@[go_sem] theorem msgq80 : m.cells[80]? = some (.int .u32 m.ask.options) := by
  rw [show m.cells = m.row.toArray from rfl, List.getElem?_toArray, MsgV.row, List.getElem?_append_right (by rw [head_row_len]; omega), head_row_len, List.getElem?_append_left (by rw [AskV.row_len]; omega)]
  have h := askq54 m.ask
  rw [show m.ask.cells = m.ask.row.toArray from rfl, List.getElem?_toArray] at h
  exact h
@[go_sem] theorem msgg80 (hp : 80 < m.cells.size) : m.cells[80] = .int .u32 m.ask.options := Option.some.inj ((Array.getElem?_eq_getElem hp).symm.trans (msgq80 m))
@[go_sem] theorem msgq81 : m.cells[81]? = some (.int .u8 m.ask.level) := by
  rw [show m.cells = m.row.toArray from rfl, List.getElem?_toArray, MsgV.row, List.getElem?_append_right (by rw [head_row_len]; omega), head_row_len, List.getElem?_append_left (by rw [AskV.row_len]; omega)]
  have h := askq55 m.ask
  rw [show m.ask.cells = m.ask.row.toArray from rfl, List.getElem?_toArray] at h
  exact h
@[go_sem] theorem msgg81 (hp : 81 < m.cells.size) : m.cells[81] = .int .u8 m.ask.level := Option.some.inj ((Array.getElem?_eq_getElem hp).symm.trans (msgq81 m))
@[go_sem] theorem msgq82 : m.cells[82]? = some (.int .u8 m.ask.durable) := by
  rw [show m.cells = m.row.toArray from rfl, List.getElem?_toArray, MsgV.row, List.getElem?_append_right (by rw [head_row_len]; omega), head_row_len, List.getElem?_append_left (by rw [AskV.row_len]; omega)]
  have h := askq56 m.ask
  rw [show m.ask.cells = m.ask.row.toArray from rfl, List.getElem?_toArray] at h
  exact h
@[go_sem] theorem msgg82 (hp : 82 < m.cells.size) : m.cells[82] = .int .u8 m.ask.durable := Option.some.inj ((Array.getElem?_eq_getElem hp).symm.trans (msgq82 m))
@[go_sem] theorem msgq83 : m.cells[83]? = some (.int .u64 m.ask.file) := by
  rw [show m.cells = m.row.toArray from rfl, List.getElem?_toArray, MsgV.row, List.getElem?_append_right (by rw [head_row_len]; omega), head_row_len, List.getElem?_append_left (by rw [AskV.row_len]; omega)]
  have h := askq57 m.ask
  rw [show m.ask.cells = m.ask.row.toArray from rfl, List.getElem?_toArray] at h
  exact h
@[go_sem] theorem msgg83 (hp : 83 < m.cells.size) : m.cells[83] = .int .u64 m.ask.file := Option.some.inj ((Array.getElem?_eq_getElem hp).symm.trans (msgq83 m))
@[go_sem] theorem msgq84 : m.cells[84]? = some (.string m.ask.name) := by
  rw [show m.cells = m.row.toArray from rfl, List.getElem?_toArray, MsgV.row, List.getElem?_append_right (by rw [head_row_len]; omega), head_row_len, List.getElem?_append_left (by rw [AskV.row_len]; omega)]
  have h := askq58 m.ask
  rw [show m.ask.cells = m.ask.row.toArray from rfl, List.getElem?_toArray] at h
  exact h
@[go_sem] theorem msgg84 (hp : 84 < m.cells.size) : m.cells[84] = .string m.ask.name := Option.some.inj ((Array.getElem?_eq_getElem hp).symm.trans (msgq84 m))
@[go_sem] theorem msgq85 : m.cells[85]? = some (.int .u64 m.ask.at_) := by
  rw [show m.cells = m.row.toArray from rfl, List.getElem?_toArray, MsgV.row, List.getElem?_append_right (by rw [head_row_len]; omega), head_row_len, List.getElem?_append_left (by rw [AskV.row_len]; omega)]
  have h := askq59 m.ask
  rw [show m.ask.cells = m.ask.row.toArray from rfl, List.getElem?_toArray] at h
  exact h
@[go_sem] theorem msgg85 (hp : 85 < m.cells.size) : m.cells[85] = .int .u64 m.ask.at_ := Option.some.inj ((Array.getElem?_eq_getElem hp).symm.trans (msgq85 m))
@[go_sem] theorem msgq86 : m.cells[86]? = some (.int .u32 m.ask.n) := by
  rw [show m.cells = m.row.toArray from rfl, List.getElem?_toArray, MsgV.row, List.getElem?_append_right (by rw [head_row_len]; omega), head_row_len, List.getElem?_append_left (by rw [AskV.row_len]; omega)]
  have h := askq60 m.ask
  rw [show m.ask.cells = m.ask.row.toArray from rfl, List.getElem?_toArray] at h
  exact h
@[go_sem] theorem msgg86 (hp : 86 < m.cells.size) : m.cells[86] = .int .u32 m.ask.n := Option.some.inj ((Array.getElem?_eq_getElem hp).symm.trans (msgq86 m))
@[go_sem] theorem msgq87 : m.cells[87]? = some (.slice m.ask.data.p m.ask.data.n m.ask.data.cap) := by
  rw [show m.cells = m.row.toArray from rfl, List.getElem?_toArray, MsgV.row, List.getElem?_append_right (by rw [head_row_len]; omega), head_row_len, List.getElem?_append_left (by rw [AskV.row_len]; omega)]
  have h := askq61 m.ask
  rw [show m.ask.cells = m.ask.row.toArray from rfl, List.getElem?_toArray] at h
  exact h
@[go_sem] theorem msgg87 (hp : 87 < m.cells.size) : m.cells[87] = .slice m.ask.data.p m.ask.data.n m.ask.data.cap := Option.some.inj ((Array.getElem?_eq_getElem hp).symm.trans (msgq87 m))
@[go_sem] theorem msgq88 : m.cells[88]? = some (.slice m.ask.locks.p m.ask.locks.n m.ask.locks.cap) := by
  rw [show m.cells = m.row.toArray from rfl, List.getElem?_toArray, MsgV.row, List.getElem?_append_right (by rw [head_row_len]; omega), head_row_len, List.getElem?_append_left (by rw [AskV.row_len]; omega)]
  have h := askq62 m.ask
  rw [show m.ask.cells = m.ask.row.toArray from rfl, List.getElem?_toArray] at h
  exact h
@[go_sem] theorem msgg88 (hp : 88 < m.cells.size) : m.cells[88] = .slice m.ask.locks.p m.ask.locks.n m.ask.locks.cap := Option.some.inj ((Array.getElem?_eq_getElem hp).symm.trans (msgq88 m))
@[go_sem] theorem msgq89 : m.cells[89]? = some (.int .u16 m.ask.most) := by
  rw [show m.cells = m.row.toArray from rfl, List.getElem?_toArray, MsgV.row, List.getElem?_append_right (by rw [head_row_len]; omega), head_row_len, List.getElem?_append_left (by rw [AskV.row_len]; omega)]
  have h := askq63 m.ask
  rw [show m.ask.cells = m.ask.row.toArray from rfl, List.getElem?_toArray] at h
  exact h
@[go_sem] theorem msgg89 (hp : 89 < m.cells.size) : m.cells[89] = .int .u16 m.ask.most := Option.some.inj ((Array.getElem?_eq_getElem hp).symm.trans (msgq89 m))
@[go_sem] theorem msgq90 : m.cells[90]? = some (.string m.ask.pattern) := by
  rw [show m.cells = m.row.toArray from rfl, List.getElem?_toArray, MsgV.row, List.getElem?_append_right (by rw [head_row_len]; omega), head_row_len, List.getElem?_append_left (by rw [AskV.row_len]; omega)]
  have h := askq64 m.ask
  rw [show m.ask.cells = m.ask.row.toArray from rfl, List.getElem?_toArray] at h
  exact h
@[go_sem] theorem msgg90 (hp : 90 < m.cells.size) : m.cells[90] = .string m.ask.pattern := Option.some.inj ((Array.getElem?_eq_getElem hp).symm.trans (msgq90 m))
@[go_sem] theorem msgq91 : m.cells[91]? = some (.string m.ask.after) := by
  rw [show m.cells = m.row.toArray from rfl, List.getElem?_toArray, MsgV.row, List.getElem?_append_right (by rw [head_row_len]; omega), head_row_len, List.getElem?_append_left (by rw [AskV.row_len]; omega)]
  have h := askq65 m.ask
  rw [show m.ask.cells = m.ask.row.toArray from rfl, List.getElem?_toArray] at h
  exact h
@[go_sem] theorem msgg91 (hp : 91 < m.cells.size) : m.cells[91] = .string m.ask.after := Option.some.inj ((Array.getElem?_eq_getElem hp).symm.trans (msgq91 m))
@[go_sem] theorem msgq92 : m.cells[92]? = some (.int .u16 m.ask.cls) := by
  rw [show m.cells = m.row.toArray from rfl, List.getElem?_toArray, MsgV.row, List.getElem?_append_right (by rw [head_row_len]; omega), head_row_len, List.getElem?_append_left (by rw [AskV.row_len]; omega)]
  have h := askq66 m.ask
  rw [show m.ask.cells = m.ask.row.toArray from rfl, List.getElem?_toArray] at h
  exact h
@[go_sem] theorem msgg92 (hp : 92 < m.cells.size) : m.cells[92] = .int .u16 m.ask.cls := Option.some.inj ((Array.getElem?_eq_getElem hp).symm.trans (msgq92 m))
@[go_sem] theorem msgq93 : m.cells[93]? = some (.int .u64 m.ask.size_) := by
  rw [show m.cells = m.row.toArray from rfl, List.getElem?_toArray, MsgV.row, List.getElem?_append_right (by rw [head_row_len]; omega), head_row_len, List.getElem?_append_left (by rw [AskV.row_len]; omega)]
  have h := askq67 m.ask
  rw [show m.ask.cells = m.ask.row.toArray from rfl, List.getElem?_toArray] at h
  exact h
@[go_sem] theorem msgg93 (hp : 93 < m.cells.size) : m.cells[93] = .int .u64 m.ask.size_ := Option.some.inj ((Array.getElem?_eq_getElem hp).symm.trans (msgq93 m))
@[go_sem] theorem msgq94 : m.cells[94]? = some (.bool m.ask.on) := by
  rw [show m.cells = m.row.toArray from rfl, List.getElem?_toArray, MsgV.row, List.getElem?_append_right (by rw [head_row_len]; omega), head_row_len, List.getElem?_append_left (by rw [AskV.row_len]; omega)]
  have h := askq68 m.ask
  rw [show m.ask.cells = m.ask.row.toArray from rfl, List.getElem?_toArray] at h
  exact h
@[go_sem] theorem msgg94 (hp : 94 < m.cells.size) : m.cells[94] = .bool m.ask.on := Option.some.inj ((Array.getElem?_eq_getElem hp).symm.trans (msgq94 m))
@[go_sem] theorem msgq95 : m.cells[95]? = some (.int .u16 m.say.dialect) := by
  rw [show m.cells = m.row.toArray from rfl, List.getElem?_toArray, MsgV.row, List.getElem?_append_right (by rw [head_row_len]; omega), head_row_len, List.getElem?_append_right (by rw [AskV.row_len]; omega), AskV.row_len]
  have h := sayq0 m.say
  rw [show m.say.cells = m.say.row.toArray from rfl, List.getElem?_toArray] at h
  exact h
@[go_sem] theorem msgg95 (hp : 95 < m.cells.size) : m.cells[95] = .int .u16 m.say.dialect := Option.some.inj ((Array.getElem?_eq_getElem hp).symm.trans (msgq95 m))
@[go_sem] theorem msgq96 : m.cells[96]? = some (.int .u64 m.say.size_) := by
  rw [show m.cells = m.row.toArray from rfl, List.getElem?_toArray, MsgV.row, List.getElem?_append_right (by rw [head_row_len]; omega), head_row_len, List.getElem?_append_right (by rw [AskV.row_len]; omega), AskV.row_len]
  have h := sayq1 m.say
  rw [show m.say.cells = m.say.row.toArray from rfl, List.getElem?_toArray] at h
  exact h
@[go_sem] theorem msgg96 (hp : 96 < m.cells.size) : m.cells[96] = .int .u64 m.say.size_ := Option.some.inj ((Array.getElem?_eq_getElem hp).symm.trans (msgq96 m))
@[go_sem] theorem msgq105 : m.cells[105]? = some (.int .u8 m.say.level) := by
  rw [show m.cells = m.row.toArray from rfl, List.getElem?_toArray, MsgV.row, List.getElem?_append_right (by rw [head_row_len]; omega), head_row_len, List.getElem?_append_right (by rw [AskV.row_len]; omega), AskV.row_len]
  have h := sayq10 m.say
  rw [show m.say.cells = m.say.row.toArray from rfl, List.getElem?_toArray] at h
  exact h
@[go_sem] theorem msgg105 (hp : 105 < m.cells.size) : m.cells[105] = .int .u8 m.say.level := Option.some.inj ((Array.getElem?_eq_getElem hp).symm.trans (msgq105 m))
@[go_sem] theorem msgq106 : m.cells[106]? = some (.int .u8 m.say.durable) := by
  rw [show m.cells = m.row.toArray from rfl, List.getElem?_toArray, MsgV.row, List.getElem?_append_right (by rw [head_row_len]; omega), head_row_len, List.getElem?_append_right (by rw [AskV.row_len]; omega), AskV.row_len]
  have h := sayq11 m.say
  rw [show m.say.cells = m.say.row.toArray from rfl, List.getElem?_toArray] at h
  exact h
@[go_sem] theorem msgg106 (hp : 106 < m.cells.size) : m.cells[106] = .int .u8 m.say.durable := Option.some.inj ((Array.getElem?_eq_getElem hp).symm.trans (msgq106 m))
@[go_sem] theorem msgq107 : m.cells[107]? = some (.int .u16 m.say.made) := by
  rw [show m.cells = m.row.toArray from rfl, List.getElem?_toArray, MsgV.row, List.getElem?_append_right (by rw [head_row_len]; omega), head_row_len, List.getElem?_append_right (by rw [AskV.row_len]; omega), AskV.row_len]
  have h := sayq12 m.say
  rw [show m.say.cells = m.say.row.toArray from rfl, List.getElem?_toArray] at h
  exact h
@[go_sem] theorem msgg107 (hp : 107 < m.cells.size) : m.cells[107] = .int .u16 m.say.made := Option.some.inj ((Array.getElem?_eq_getElem hp).symm.trans (msgq107 m))
@[go_sem] theorem msgq108 : m.cells[108]? = some (.int .u64 m.say.file) := by
  rw [show m.cells = m.row.toArray from rfl, List.getElem?_toArray, MsgV.row, List.getElem?_append_right (by rw [head_row_len]; omega), head_row_len, List.getElem?_append_right (by rw [AskV.row_len]; omega), AskV.row_len]
  have h := sayq13 m.say
  rw [show m.say.cells = m.say.row.toArray from rfl, List.getElem?_toArray] at h
  exact h
@[go_sem] theorem msgg108 (hp : 108 < m.cells.size) : m.cells[108] = .int .u64 m.say.file := Option.some.inj ((Array.getElem?_eq_getElem hp).symm.trans (msgq108 m))
@[go_sem] theorem msgq109 : m.cells[109]? = some (.int .u8 m.say.kind) := by
  rw [show m.cells = m.row.toArray from rfl, List.getElem?_toArray, MsgV.row, List.getElem?_append_right (by rw [head_row_len]; omega), head_row_len, List.getElem?_append_right (by rw [AskV.row_len]; omega), AskV.row_len]
  have h := sayq14 m.say
  rw [show m.say.cells = m.say.row.toArray from rfl, List.getElem?_toArray] at h
  exact h
@[go_sem] theorem msgg109 (hp : 109 < m.cells.size) : m.cells[109] = .int .u8 m.say.kind := Option.some.inj ((Array.getElem?_eq_getElem hp).symm.trans (msgq109 m))
@[go_sem] theorem msgq110 : m.cells[110]? = some (.slice m.say.data.p m.say.data.n m.say.data.cap) := by
  rw [show m.cells = m.row.toArray from rfl, List.getElem?_toArray, MsgV.row, List.getElem?_append_right (by rw [head_row_len]; omega), head_row_len, List.getElem?_append_right (by rw [AskV.row_len]; omega), AskV.row_len]
  have h := sayq15 m.say
  rw [show m.say.cells = m.say.row.toArray from rfl, List.getElem?_toArray] at h
  exact h
@[go_sem] theorem msgg110 (hp : 110 < m.cells.size) : m.cells[110] = .slice m.say.data.p m.say.data.n m.say.data.cap := Option.some.inj ((Array.getElem?_eq_getElem hp).symm.trans (msgq110 m))
@[go_sem] theorem msgq111 : m.cells[111]? = some (.int .u32 m.say.n) := by
  rw [show m.cells = m.row.toArray from rfl, List.getElem?_toArray, MsgV.row, List.getElem?_append_right (by rw [head_row_len]; omega), head_row_len, List.getElem?_append_right (by rw [AskV.row_len]; omega), AskV.row_len]
  have h := sayq16 m.say
  rw [show m.say.cells = m.say.row.toArray from rfl, List.getElem?_toArray] at h
  exact h
@[go_sem] theorem msgg111 (hp : 111 < m.cells.size) : m.cells[111] = .int .u32 m.say.n := Option.some.inj ((Array.getElem?_eq_getElem hp).symm.trans (msgq111 m))
@[go_sem] theorem msgq112 : m.cells[112]? = some (.slice m.say.entries.p m.say.entries.n m.say.entries.cap) := by
  rw [show m.cells = m.row.toArray from rfl, List.getElem?_toArray, MsgV.row, List.getElem?_append_right (by rw [head_row_len]; omega), head_row_len, List.getElem?_append_right (by rw [AskV.row_len]; omega), AskV.row_len]
  have h := sayq17 m.say
  rw [show m.say.cells = m.say.row.toArray from rfl, List.getElem?_toArray] at h
  exact h
@[go_sem] theorem msgg112 (hp : 112 < m.cells.size) : m.cells[112] = .slice m.say.entries.p m.say.entries.n m.say.entries.cap := Option.some.inj ((Array.getElem?_eq_getElem hp).symm.trans (msgq112 m))
@[go_sem] theorem msgq113 : m.cells[113]? = some (.bool m.say.more) := by
  rw [show m.cells = m.row.toArray from rfl, List.getElem?_toArray, MsgV.row, List.getElem?_append_right (by rw [head_row_len]; omega), head_row_len, List.getElem?_append_right (by rw [AskV.row_len]; omega), AskV.row_len]
  have h := sayq18 m.say
  rw [show m.say.cells = m.say.row.toArray from rfl, List.getElem?_toArray] at h
  exact h
@[go_sem] theorem msgg113 (hp : 113 < m.cells.size) : m.cells[113] = .bool m.say.more := Option.some.inj ((Array.getElem?_eq_getElem hp).symm.trans (msgq113 m))
@[go_sem] theorem msgq114 : m.cells[114]? = some (.bool m.say.gone) := by
  rw [show m.cells = m.row.toArray from rfl, List.getElem?_toArray, MsgV.row, List.getElem?_append_right (by rw [head_row_len]; omega), head_row_len, List.getElem?_append_right (by rw [AskV.row_len]; omega), AskV.row_len]
  have h := sayq19 m.say
  rw [show m.say.cells = m.say.row.toArray from rfl, List.getElem?_toArray] at h
  exact h
@[go_sem] theorem msgg114 (hp : 114 < m.cells.size) : m.cells[114] = .bool m.say.gone := Option.some.inj ((Array.getElem?_eq_getElem hp).symm.trans (msgq114 m))
end
theorem put_row (a b c d : List Value) (t : TypeId) (hc : c.length = b.length) : putsAt (some (.cells (a ++ (b ++ d)).toArray t (0, 0))) a.length c.toArray = some (.cells (a ++ (c ++ d)).toArray t (0, 0)) := by
  rw [putsAt_some, if_pos (by simp; omega)]
  congr 2
  apply Array.toList_inj.1
  simp only [List.size_toArray]
  rw [List.take_left' rfl, hc]
  have : a.length + b.length = (a ++ b).length := by simp
  rw [this, ← List.append_assoc a b d, List.drop_left' rfl]
  simp
@[go_sem high] theorem msg_put0 (m : MsgV) (h : HeadV) (t : TypeId) : putsAt (some (.cells m.cells t (0, 0))) 0 h.cells = some (.cells { m with head := h }.cells t (0, 0)) :=
  put_row [] m.head.row h.row (m.ask.row ++ m.say.row) t (by rw [head_row_len, head_row_len])
@[go_sem high] theorem msg_put1 (m : MsgV) (a : AskV) (t : TypeId) : putsAt (some (.cells m.cells t (0, 0))) 26 a.cells = some (.cells { m with ask := a }.cells t (0, 0)) := by
  have := put_row m.head.row m.ask.row a.row m.say.row t (by rw [AskV.row_len, AskV.row_len])
  rw [head_row_len] at this
  exact this
@[go_sem high] theorem msg_put2 (m : MsgV) (s : SayV) (t : TypeId) : putsAt (some (.cells m.cells t (0, 0))) 95 s.cells = some (.cells { m with say := s }.cells t (0, 0)) := by
  have := put_row (m.head.row ++ m.ask.row) m.say.row s.row [] t (by rw [SayV.row_len, SayV.row_len])
  rw [List.length_append, head_row_len, AskV.row_len] at this
  simpa [MsgV.cells, MsgV.row, SayV.cells] using this
end Go.Proofs.YtinfdomlpbikaaaGreatDoor
namespace Go.Proofs.YtinfdomlpbikaaaGreatDoor
open Go Go.Eng
set_option linter.unusedSimpArgs false
set_option linter.unusedVariables false
--BEGIN
theorem cutL_drop (l : List UInt8) (a b k : Nat) : cutL (l.drop a) b k = cutL l (a + b) k := by
  unfold cutL; rw [List.drop_drop]
def shiftR (a : Nat) : Except Int (List UInt8 × Nat) → Except Int (List UInt8 × Nat)
  | .error e => .error e
  | .ok (x, n) => .ok (x, a + n)
theorem rowGet_shift (l : List UInt8) (a m : Nat) (ha : a ≤ l.length) : rowGet l a m = shiftR a (rowGet (l.drop a) 0 m) := by
  unfold rowGet
  simp only [cutL_drop, List.length_drop, Nat.add_zero]
  have e0 : numB (cutL l a 2) = numB (cutL l (a + 0) 2) := rfl
  generalize numB (cutL l a 2) = n
  by_cases h1 : l.length < a + 2
  · rw [if_pos h1, if_pos (show l.length - a < 0 + 2 by omega)]; rfl
  · rw [if_neg h1, if_neg (show ¬ l.length - a < 0 + 2 by omega)]
    by_cases h2 : m < n
    · rw [if_pos h2, if_pos h2]; rfl
    · rw [if_neg h2, if_neg h2]
      by_cases h3 : l.length < a + 2 + n
      · rw [if_pos h3, if_pos (show l.length - a < 0 + 2 + n by omega)]; rfl
      · rw [if_neg h3, if_neg (show ¬ l.length - a < 0 + 2 + n by omega)]
        simp only [shiftR]
        congr 2
        omega
theorem textGet_shift (l : List UInt8) (a : Nat) (ha : a ≤ l.length) : textGet l a = shiftR a (textGet (l.drop a) 0) := by
  unfold textGet
  rw [rowGet_shift l a 512 ha]
  cases rowGet (l.drop a) 0 512 with
  | error e => rfl
  | ok x =>
    obtain ⟨row, n⟩ := x
    simp only [shiftR]
    cases txtG row with
    | none => rfl
    | some t => rfl
/-- a text's row -/
def textC : Codec ByteArray where
  put s := textPut s.data.toList
  get l := match textGet l 0 with
    | .error e => .error e
    | .ok (t, n) => .ok (strOf t, l.drop n)
  back s b r h := by
    unfold textPut at h
    split at h
    · cases h
    · rename_i row hrow
      split at h
      · cases h
      · rename_i hlen
        injection h with h
        subst h
        have h0 : cutL (leB row.length 2 ++ row ++ r) 0 2 = leB row.length 2 := by
          unfold cutL
          rw [List.drop_zero, List.append_assoc, List.take_left' (leB_len _ _)]
        have hn : numB (leB row.length 2) = row.length := by
          rw [numB_leB]; exact Nat.mod_eq_of_lt (by omega)
        have h2 : cutL (leB row.length 2 ++ row ++ r) (0 + 2) row.length = row := by
          unfold cutL
          rw [List.append_assoc, List.drop_left' (leB_len _ _), List.take_left' rfl]
        have hl : (leB row.length 2 ++ row ++ r).length = 2 + row.length + r.length := by simp [leB_len]; omega
        have hg : rowGet (leB row.length 2 ++ row ++ r) 0 512 = .ok (row, 0 + 2 + row.length) := by
          unfold rowGet
          rw [h0, hn, h2, if_neg (by omega), if_neg hlen, if_neg (by omega)]
        unfold textGet
        rw [hg]
        simp only [txt_back hrow, strOf_str]
        congr 2
        exact List.drop_left' (by simp [leB_len])
  once l s r h := by
    split at h
    · cases h
    · rename_i t n hg
      injection h with h
      injection h with h1 h2
      subst h1 h2
      unfold textGet at hg
      split at hg
      · cases hg
      · rename_i row next hrow
        split at hg
        · cases hg
        · rename_i t' ht
          injection hg with hg
          injection hg with h3 h4
          subst h3 h4
          unfold rowGet at hrow
          split at hrow
          · cases hrow
          · rename_i c1
            split at hrow
            · cases hrow
            · rename_i c2
              split at hrow
              · cases hrow
              · rename_i c3
                injection hrow with hrow
                injection hrow with h5 h6
                obtain ⟨m, hm⟩ : ∃ m, m = numB (cutL l 0 2) := ⟨_, rfl⟩
                rw [← hm] at c2 c3 h5 h6
                have hrl : row.length = m := by rw [← h5]; exact cutL_len _ _ _ (by omega)
                have hl2 : leB m 2 = l.take 2 := by
                  have := leB_numB (l.take 2)
                  have e : (l.take 2).length = 2 := by simp; omega
                  rw [e] at this
                  rw [← this, hm]
                  rfl
                refine ⟨leB row.length 2 ++ row, ?_, ?_⟩
                · unfold textPut
                  rw [strOf_data, txt_once ht]
                  simp only
                  rw [if_neg (by omega)]
                · rw [hrl, hl2, ← h5, ← h6]
                  unfold cutL
                  rw [Nat.zero_add, List.append_assoc]
                  conv => lhs; rw [← List.take_append_drop 2 l]
                  congr 1
                  rw [← List.drop_drop, List.take_append_drop]
def arrC (n : Nat) : Codec (Arr n) where
  put a := .ok a.1
  get l := if h : l.length < n then .error 4 else .ok (⟨l.take n, by simp; omega⟩, l.drop n)
  back a b r h := by
    injection h with h
    subst h
    have hn := a.2
    rw [dif_neg (by rw [List.length_append, hn]; omega)]
    congr 2
    · exact Subtype.ext (List.take_left' hn)
    · exact List.drop_left' hn
  once l a r h := by
    split at h
    · cases h
    · injection h with h
      injection h with h1 h2
      subst h1 h2
      exact ⟨l.take n, rfl, by simp⟩
/-- some of a codec's, by another name -/
def subC {α β : Type} (C : Codec α) (f : α → β) (g : β → α) (p : β → Bool) (hf : ∀ b, p b = true → f (g b) = b) (hg : ∀ l a r, C.get l = .ok (a, r) → p (f a) = true ∧ g (f a) = a) : Codec β where
  put b := if p b then C.put (g b) else .error 2
  get l := match C.get l with
    | .error e => .error e
    | .ok (a, r) => .ok (f a, r)
  back a b r h := by
    split at h
    · rename_i hp
      rw [C.back _ _ r h]; simp only [hf a hp]
    · cases h
  once l a r h := by
    split at h
    · cases h
    · rename_i x r' hx
      injection h with h
      injection h with h1 h2
      subst h1 h2
      rw [(hg _ _ _ hx).1, if_pos rfl, (hg _ _ _ hx).2]
      exact C.once _ _ _ hx
theorem Rd.sub {α β : Type} {C : Codec α} {st st1 : Except Int (List UInt8)} {f : α → β} {g : β → α} {p : β → Bool} {hf : ∀ b, p b = true → f (g b) = b} {hg : ∀ l a r, C.get l = .ok (a, r) → p (f a) = true ∧ g (f a) = a} {a : α} (h : Rd C st st1 a) : Rd (subC C f g p hf hg) st st1 (f a) := by
  obtain ⟨e1, v1⟩ := h
  cases st with
  | error e => exact ⟨e1, by intro l x r h; cases h⟩
  | ok l =>
    simp only [nxC] at e1
    cases hgt : C.get l with
    | error e =>
      rw [hgt] at e1
      refine ⟨by rw [e1]; simp [nxC, subC, hgt], ?_⟩
      intro l' x r h h'
      injection h with h
      subst h
      simp [subC, hgt] at h'
    | ok y =>
      obtain ⟨x, r⟩ := y
      rw [hgt] at e1
      have hx := v1 l x r rfl hgt
      subst hx
      refine ⟨by rw [e1]; simp [nxC, subC, hgt], ?_⟩
      intro l' x r' h h'
      injection h with h
      subst h
      simp [subC, hgt] at h'
      exact h'.1
/-! ### what a get's answer is like -/
theorem num_get {k : Nat} {l : List UInt8} {x : Int} {r : List UInt8} (h : (numC k).get l = .ok (x, r)) : 0 ≤ x ∧ x < ((256 ^ k : Nat) : Int) := by
  obtain ⟨b, h1, _⟩ := (numC k).once _ _ _ h
  simp only [numC] at h1
  split at h1
  · assumption
  · cases h1
theorem chk_get {α : Type} {C : Codec α} {p : α → Bool} {e : Int} {l : List UInt8} {x : α} {r : List UInt8} (h : (chkC C p e).get l = .ok (x, r)) : C.get l = .ok (x, r) ∧ p x = true := by
  simp only [chkC] at h
  split at h
  · split at h
    · rename_i hg hp
      injection h with h
      injection h with h1 h2
      subst h1 h2
      exact ⟨hg, hp⟩
    · cases h
  · cases h
theorem most_get {k : Nat} {m e : Int} {l : List UInt8} {x : Int} {r : List UInt8} (h : (mostC k m e).get l = .ok (x, r)) : 0 ≤ x ∧ x ≤ m ∧ x < ((256 ^ k : Nat) : Int) := by
  obtain ⟨h1, h2⟩ := chk_get h
  have := num_get h1
  have h3 : x ≤ m := by simpa using h2
  omega
theorem seq_get {α β : Type} {C : Codec α} {D : α → Codec β} {l : List UInt8} {x : α × β} {r : List UInt8} (h : (seqC C D).get l = .ok (x, r)) : ∃ r1, C.get l = .ok (x.1, r1) ∧ (D x.1).get r1 = .ok (x.2, r) := by
  simp only [seqC] at h
  split at h
  · cases h
  · rename_i y r1 h1
    split at h
    · cases h
    · rename_i z r2 h2
      injection h with h
      injection h with h3 h4
      subst h3 h4
      exact ⟨r1, h1, h2⟩
theorem list_get {α : Type} {C : Codec α} (q : α → Prop) (hq : ∀ l x r, C.get l = .ok (x, r) → q x) : ∀ {n : Nat} {l : List UInt8} {xs : List α} {r : List UInt8}, (listC C n).get l = .ok (xs, r) → xs.length = n ∧ ∀ x, x ∈ xs → q x
  | 0, l, xs, r, h => by
    injection h with h
    injection h with h1 h2
    subst h1
    exact ⟨rfl, fun x hx => by cases hx⟩
  | n + 1, l, xs, r, h => by
    simp only [listC] at h
    split at h
    · cases h
    · rename_i x ys r' hg
      injection h with h
      injection h with h1 h2
      subst h1
      obtain ⟨r1, g1, g2⟩ := seq_get hg
      obtain ⟨e1, e2⟩ := list_get q hq g2
      refine ⟨by simp at e1 ⊢; omega, ?_⟩
      intro y hy
      rcases List.mem_cons.1 hy with rfl | hy
      · exact hq _ _ _ g1
      · exact e2 y hy
theorem bytes_get {n : Nat} {l x r : List UInt8} (h : (bytesC n).get l = .ok (x, r)) : x.length = n := by
  obtain ⟨b, h1, _⟩ := (bytesC n).once _ _ _ h
  simp only [bytesC] at h1
  split at h1
  · assumption
  · cases h1
/-! ### what is asked -/
structure LockV where
  open_ : Int
  at_ : Int
  n : Int
  mode : Int
structure EntV where
  name : ByteArray
  kind : Int
  size : Int
structure AskS where
  f : AskV
  dia : List Int
  dat : List UInt8
  lok : List LockV
structure SayS where
  f : SayV
  dat : List UInt8
  ent : List EntV
def zeroAS : AskS := ⟨zeroA, [], [], []⟩
def zeroSS : SayS := ⟨zeroS, [], []⟩
def dataC : Codec (Int × List UInt8) := seqC (mostC 4 32768 3) (fun n => bytesC n.toNat)
def lockC : Codec (Int × Int × Int × Unit) := seqC (numC 8) fun _ => seqC (numC 8) fun _ => seqC (numC 2) fun _ => zeroC 2
def lockOf (x : Int × Int × Int × Unit) : LockV := ⟨0, x.1, x.2.1, x.2.2.1⟩
def lockTo (l : LockV) : Int × Int × Int × Unit := (l.at_, l.n, l.mode, ())
def entC : Codec (Int × Unit × Int × ByteArray) := seqC (mostC 2 2 5) fun _ => seqC (zeroC 2) fun _ => seqC (mostC 8 1048576 5) fun _ => textC
def entOf (x : Int × Unit × Int × ByteArray) : EntV := ⟨x.2.2.2, x.1, x.2.2.1⟩
def entTo (l : EntV) : Int × Unit × Int × ByteArray := (l.kind, (), l.size, l.name)
/-- the fields of a class -/
def clsC (c : Int) : Codec (Int × Bool × ByteArray) :=
  if c = 1 then subC (numC 8) (fun s => (s, false, ByteArray.empty)) (fun x => x.1) (fun x => decide (x.2.1 = false ∧ x.2.2 = ByteArray.empty)) (by rintro ⟨s, o, n⟩ h; simp at h; simp [h]) (by intro l a r h; simp)
  else if c = 2 then subC (boolC 2) (fun o => (0, o, ByteArray.empty)) (fun x => x.2.1) (fun x => decide (x.1 = 0 ∧ x.2.2 = ByteArray.empty)) (by rintro ⟨s, o, n⟩ h; simp at h; simp [h]) (by intro l a r h; simp)
  else subC (seqC (boolC 2) fun _ => textC) (fun x => (0, x.1, x.2)) (fun x => (x.2.1, x.2.2)) (fun x => decide (x.1 = 0)) (by rintro ⟨s, o, n⟩ h; simp at h; simp [h]) (by intro l a r h; simp)
def askF0 : Fmt AskS where
  X := Int × List Int × Arr 16
  C := seqC (mostC 2 16 3) fun n => seqC (listC (numC 2) n.toNat) fun _ => arrC 16
  mkS x := { zeroAS with dia := x.2.1, f := { zeroA with guid := x.2.2 } }
  unS A := (A.dia.length, A.dia, A.f.guid)
  unS_mkS l x r h := by
    obtain ⟨r1, h1, h2⟩ := seq_get h
    obtain ⟨r2, h3, h4⟩ := seq_get h2
    have := (list_get (fun _ => True) (fun _ _ _ _ => trivial) h3).1
    have := most_get h1
    obtain ⟨n, ds, g⟩ := x
    simp only at *
    congr 1
    omega
  pre A := if 16 < A.dia.length then 3 else 0
  pre_mkS l x r h := by
    obtain ⟨r1, h1, h2⟩ := seq_get h
    obtain ⟨r2, h3, h4⟩ := seq_get h2
    have := (list_get (fun _ => True) (fun _ _ _ _ => trivial) h3).1
    have := most_get h1
    simp only
    rw [if_neg (by omega)]
def askF1 : Fmt AskS where
  X := Arr 32 × ByteArray
  C := seqC (arrC 32) fun _ => textC
  mkS x := { zeroAS with f := { zeroA with proof := x.1, user := x.2 } }
  unS A := (A.f.proof, A.f.user)
  unS_mkS l x r h := rfl
  pre _ := 0
  pre_mkS l x r h := rfl
def askF3 : Fmt AskS where
  X := ByteArray
  C := textC
  mkS x := { zeroAS with f := { zeroA with share := x } }
  unS A := A.f.share
  unS_mkS l x r h := rfl
  pre _ := 0
  pre_mkS l x r h := rfl
/-- nothing -/
def askFz : Fmt AskS where
  X := Unit
  C := zeroC 4
  mkS x := zeroAS
  unS A := ()
  unS_mkS l x r h := rfl
  pre _ := 0
  pre_mkS l x r h := rfl
def askF5 : Fmt AskS where
  X := Int × Int × Int × Int × Int × Int × Unit × Int × ByteArray
  C := seqC (numC 4) fun _ => seqC (numC 4) fun _ => seqC (numC 4) fun _ => seqC (numC 4) fun _ => seqC (numC 1) fun _ => seqC (numC 1) fun _ => seqC (zeroC 2) fun _ => seqC (numC 8) fun _ => textC
  mkS x := { zeroAS with f := { zeroA with access := x.1, sharing := x.2.1, way := x.2.2.1, options := x.2.2.2.1, level := x.2.2.2.2.1, durable := x.2.2.2.2.2.1, file := x.2.2.2.2.2.2.2.1, name := x.2.2.2.2.2.2.2.2 } }
  unS A := (A.f.access, A.f.sharing, A.f.way, A.f.options, A.f.level, A.f.durable, (), A.f.file, A.f.name)
  unS_mkS l x r h := rfl
  pre _ := 0
  pre_mkS l x r h := rfl
def askFf : Fmt AskS where
  X := Int
  C := numC 8
  mkS x := { zeroAS with f := { zeroA with file := x } }
  unS A := A.f.file
  unS_mkS l x r h := rfl
  pre _ := 0
  pre_mkS l x r h := rfl
def askF8 : Fmt AskS where
  X := Int × Int × Int
  C := seqC (numC 8) fun _ => seqC (numC 8) fun _ => numC 4
  mkS x := { zeroAS with f := { zeroA with file := x.1, at_ := x.2.1, n := x.2.2 } }
  unS A := (A.f.file, A.f.at_, A.f.n)
  unS_mkS l x r h := rfl
  pre _ := 0
  pre_mkS l x r h := rfl
def askF9 : Fmt AskS where
  X := Int × Int × Int × List UInt8
  C := seqC (numC 8) fun _ => seqC (numC 8) fun _ => dataC
  mkS x := { zeroAS with dat := x.2.2.2, f := { zeroA with file := x.1, at_ := x.2.1 } }
  unS A := (A.f.file, A.f.at_, A.dat.length, A.dat)
  unS_mkS l x r h := by
    obtain ⟨r1, h1, h2⟩ := seq_get h
    obtain ⟨r2, h3, h4⟩ := seq_get h2
    obtain ⟨r3, h5, h6⟩ := seq_get h4
    have := most_get h5
    have := bytes_get h6
    obtain ⟨a, b, n, ds⟩ := x
    simp only at *
    congr 3
    omega
  pre A := if 32768 < A.dat.length then 3 else 0
  pre_mkS l x r h := by
    obtain ⟨r1, h1, h2⟩ := seq_get h
    obtain ⟨r2, h3, h4⟩ := seq_get h2
    obtain ⟨r3, h5, h6⟩ := seq_get h4
    have := most_get h5
    have := bytes_get h6
    simp only
    rw [if_neg (by omega)]
def askF10 : Fmt AskS where
  X := Int × Int × Unit × List (Int × Int × Int × Unit)
  C := seqC (numC 8) fun _ => seqC (mostC 2 16 3) fun n => seqC (zeroC 2) fun _ => listC lockC n.toNat
  mkS x := { zeroAS with lok := x.2.2.2.map lockOf, f := { zeroA with file := x.1 } }
  unS A := (A.f.file, A.lok.length, (), A.lok.map lockTo)
  unS_mkS l x r h := by
    obtain ⟨r1, h1, h2⟩ := seq_get h
    obtain ⟨r2, h3, h4⟩ := seq_get h2
    obtain ⟨r3, h5, h6⟩ := seq_get h4
    have := most_get h3
    have := (list_get (fun _ => True) (fun _ _ _ _ => trivial) h6).1
    obtain ⟨a, n, u, ds⟩ := x
    simp only at *
    have e : (ds.map lockOf).map lockTo = ds := by
      rw [List.map_map]
      conv => rhs; rw [← List.map_id ds]
      rfl
    rw [e]
    congr 2
    rw [List.length_map]
    omega
  pre A := if 16 < A.lok.length then 3 else 0
  pre_mkS l x r h := by
    obtain ⟨r1, h1, h2⟩ := seq_get h
    obtain ⟨r2, h3, h4⟩ := seq_get h2
    obtain ⟨r3, h5, h6⟩ := seq_get h4
    have := most_get h3
    have := (list_get (fun _ => True) (fun _ _ _ _ => trivial) h6).1
    simp only [List.length_map]
    rw [if_neg (by omega)]
def askF14 : Fmt AskS where
  X := Int × Int × Unit × ByteArray × ByteArray
  C := seqC (numC 8) fun _ => seqC (numC 2) fun _ => seqC (zeroC 2) fun _ => seqC textC fun _ => textC
  mkS x := { zeroAS with f := { zeroA with file := x.1, most := x.2.1, pattern := x.2.2.2.1, after := x.2.2.2.2 } }
  unS A := (A.f.file, A.f.most, (), A.f.pattern, A.f.after)
  unS_mkS l x r h := rfl
  pre _ := 0
  pre_mkS l x r h := rfl
def askF17 : Fmt AskS where
  X := Int × Int × Int × Bool × ByteArray
  C := seqC (numC 8) fun _ => seqC (chkC (numC 2) (fun c => decide (1 ≤ c ∧ c ≤ 3)) 5) clsC
  mkS x := { zeroAS with f := { zeroA with file := x.1, cls := x.2.1, size_ := x.2.2.1, on := x.2.2.2.1, name := x.2.2.2.2 } }
  unS A := (A.f.file, A.f.cls, A.f.size_, A.f.on, A.f.name)
  unS_mkS l x r h := rfl
  pre _ := 0
  pre_mkS l x r h := rfl
def askF18 : Fmt AskS where
  X := Int × Int × Unit × Unit
  C := seqC (numC 8) fun _ => seqC (numC 1) fun _ => seqC (zeroC 1) fun _ => zeroC 2
  mkS x := { zeroAS with f := { zeroA with file := x.1, level := x.2.1 } }
  unS A := (A.f.file, A.f.level, (), ())
  unS_mkS l x r h := rfl
  pre _ := 0
  pre_mkS l x r h := rfl
/-! ### what is said -/
def sayF0 : Fmt SayS where
  X := Int × Unit × Int × Arr 8
  C := seqC (numC 2) fun _ => seqC (zeroC 2) fun _ => seqC (numC 4) fun _ => arrC 8
  mkS x := { zeroSS with f := { zeroS with dialect := x.1, size_ := x.2.2.1, challenge := x.2.2.2 } }
  unS A := (A.f.dialect, (), A.f.size_, A.f.challenge)
  unS_mkS l x r h := rfl
  pre _ := 0
  pre_mkS l x r h := rfl
def sayFz : Fmt SayS where
  X := Unit
  C := zeroC 4
  mkS x := zeroSS
  unS A := ()
  unS_mkS l x r h := rfl
  pre _ := 0
  pre_mkS l x r h := rfl
def sayF5 : Fmt SayS where
  X := Int × Int × Int × Int × Int × Int × Unit
  C := seqC (numC 1) fun _ => seqC (numC 1) fun _ => seqC (mostC 2 2 5) fun _ => seqC (numC 8) fun _ => seqC (numC 8) fun _ => seqC (mostC 2 2 5) fun _ => zeroC 2
  mkS x := { zeroSS with f := { zeroS with level := x.1, durable := x.2.1, made := x.2.2.1, file := x.2.2.2.1, size_ := x.2.2.2.2.1, kind := x.2.2.2.2.2.1 } }
  unS A := (A.f.level, A.f.durable, A.f.made, A.f.file, A.f.size_, A.f.kind, ())
  unS_mkS l x r h := rfl
  pre _ := 0
  pre_mkS l x r h := rfl
def sayF8 : Fmt SayS where
  X := Int × List UInt8
  C := dataC
  mkS x := { zeroSS with dat := x.2 }
  unS A := (A.dat.length, A.dat)
  unS_mkS l x r h := by
    obtain ⟨r3, h5, h6⟩ := seq_get h
    have := most_get h5
    have := bytes_get h6
    obtain ⟨n, ds⟩ := x
    simp only at *
    congr 1
    omega
  pre A := if 32768 < A.dat.length then 3 else 0
  pre_mkS l x r h := by
    obtain ⟨r3, h5, h6⟩ := seq_get h
    have := most_get h5
    have := bytes_get h6
    simp only
    rw [if_neg (by omega)]
def sayF9 : Fmt SayS where
  X := Int
  C := numC 4
  mkS x := { zeroSS with f := { zeroS with n := x } }
  unS A := A.f.n
  unS_mkS l x r h := rfl
  pre _ := 0
  pre_mkS l x r h := rfl
/-- may an entry be told? -/
def entOk (e : EntV) : Bool := decide (e.kind ≤ 2 ∧ 0 ≤ e.size ∧ e.size ≤ 1048576)
def sayF14 : Fmt SayS where
  X := Int × Bool × List (Int × Unit × Int × ByteArray)
  C := seqC (mostC 2 64 3) fun n => seqC (boolC 2) fun _ => listC entC n.toNat
  mkS x := { zeroSS with ent := x.2.2.map entOf, f := { zeroS with more := x.2.1 } }
  unS A := (A.ent.length, A.f.more, A.ent.map entTo)
  unS_mkS l x r h := by
    obtain ⟨r1, h1, h2⟩ := seq_get h
    obtain ⟨r2, h3, h4⟩ := seq_get h2
    have := most_get h1
    have := (list_get (fun _ => True) (fun _ _ _ _ => trivial) h4).1
    obtain ⟨n, m, ds⟩ := x
    simp only at *
    have e : (ds.map entOf).map entTo = ds := by
      rw [List.map_map]
      conv => rhs; rw [← List.map_id ds]
      rfl
    rw [e]
    congr 1
    rw [List.length_map]
    omega
  pre A := if A.ent.all entOk then (if 64 < A.ent.length then 3 else 0) else 2
  pre_mkS l x r h := by
    obtain ⟨r1, h1, h2⟩ := seq_get h
    obtain ⟨r2, h3, h4⟩ := seq_get h2
    have := most_get h1
    have hl := list_get (fun x => entOk (entOf x) = true) (by
      intro l x r h
      obtain ⟨q1, g1, g2⟩ := seq_get h
      obtain ⟨q2, g3, g4⟩ := seq_get g2
      obtain ⟨q3, g5, g6⟩ := seq_get g4
      have := most_get g1
      have := most_get g5
      show decide (x.1 ≤ 2 ∧ 0 ≤ x.2.2.1 ∧ x.2.2.1 ≤ 1048576) = true
      rw [decide_eq_true_eq]
      omega) h4
    have h1' := hl.1
    have ha : (x.2.2.map entOf).all entOk = true := by
      rw [List.all_eq_true]
      intro e he
      obtain ⟨y, hy, rfl⟩ := List.mem_map.1 he
      exact hl.2 y hy
    simp only [List.length_map]
    rw [if_pos ha, if_neg (by omega)]
def sayF16 : Fmt SayS where
  X := Int × Int × Bool
  C := seqC (numC 8) fun _ => seqC (mostC 2 2 5) fun _ => boolC 2
  mkS x := { zeroSS with f := { zeroS with size_ := x.1, kind := x.2.1, gone := x.2.2 } }
  unS A := (A.f.size_, A.f.kind, A.f.gone)
  unS_mkS l x r h := rfl
  pre _ := 0
  pre_mkS l x r h := rfl
def sayF18 : Fmt SayS where
  X := Int × Int × Unit × Unit
  C := seqC (numC 8) fun _ => seqC (numC 1) fun _ => seqC (zeroC 1) fun _ => zeroC 2
  mkS x := { zeroSS with f := { zeroS with file := x.1, level := x.2.1 } }
  unS A := (A.f.file, A.f.level, (), ())
  unS_mkS l x r h := rfl
  pre _ := 0
  pre_mkS l x r h := rfl
/-- the formats of a command -/
def askF (c : Int) : Option (Fmt AskS) :=
  if c = 0 then some askF0 else if c = 1 then some askF1 else if c = 3 then some askF3 else if c = 2 ∨ c = 4 ∨ c = 12 ∨ c = 13 then some askFz
  else if c = 5 then some askF5 else if c = 6 ∨ c = 7 ∨ c = 16 then some askFf else if c = 8 then some askF8 else if c = 9 then some askF9 else if c = 10 then some askF10
  else if c = 14 then some askF14 else if c = 17 then some askF17 else if c = 18 then some askF18 else none
def sayF (c : Int) : Option (Fmt SayS) :=
  if c = 0 then some sayF0 else if c = 1 ∨ c = 2 ∨ c = 3 ∨ c = 4 ∨ c = 13 ∨ c = 6 ∨ c = 7 ∨ c = 10 ∨ c = 17 then some sayFz
  else if c = 5 then some sayF5 else if c = 8 then some sayF8 else if c = 9 then some sayF9
  else if c = 14 then some sayF14 else if c = 16 then some sayF16 else if c = 18 then some sayF18 else none
--END
end Go.Proofs.YtinfdomlpbikaaaGreatDoor
