/-
  What is got: each command's, by the document and by the program.
  What is got of a body, by the document.
  What is got of bytes, by the document: Get.
  What is got of a body, by the program.
  What is got of bytes, by the program: Get.
  The law about what is got: its copy with room behind it, and how messages are compared.
-/
import Derived.Test.YtinfdomlpbikaaaGreatDoorFre5
import Derived.Test.YtinfdomlpbikaaaGreatDoorFre6
import Derived.Test.YtinfdomlpbikaaaGreatDoorFre7
import Derived.Test.YtinfdomlpbikaaaGreatDoorFre2
namespace Go.Proofs.YtinfdomlpbikaaaGreatDoor
open Go.Eng Go.Lib
set_option linter.unusedSimpArgs false
set_option linter.unusedVariables false
set_option maxRecDepth 100000
variable {w w0 : World}
def askG (c : Int) (l : List UInt8) : Except Int AskS := match askF c with
  | some F => F.get l
  | none => .error 2
def sayG (c : Int) (l : List UInt8) : Except Int SayS := match sayF c with
  | some F => F.get l
  | none => .error 5
theorem askG_of {c : Int} {F : Fmt AskS} (h : askF c = some F) (l : List UInt8) : askG c l = F.get l := by unfold askG; rw [h]
theorem sayG_of {c : Int} {F : Fmt SayS} (h : sayF c = some F) (l : List UInt8) : sayG c l = F.get l := by unfold sayG; rw [h]
theorem in8 {c : Int} (h0 : 0 ≤ c) (h : known8 c = true) : c = 0 ∨ c = 1 ∨ c = 2 ∨ c = 3 ∨ c = 4 ∨ c = 13 := by simp [known8] at h; omega
theorem in9 {c : Int} (h : known9 c = true) : c = 5 ∨ c = 6 ∨ c = 7 ∨ c = 8 ∨ c = 9 ∨ c = 10 := by simp [known9] at h; omega
theorem in10 {c : Int} (h : known10 c = true) : c = 12 ∨ c = 14 ∨ c = 16 ∨ c = 17 ∨ c = 18 := by simp [known10] at h; omega
theorem askF_0 : askF 0 = some askF0 := by simp [askF]
theorem askF_1 : askF 1 = some askF1 := by simp [askF]
theorem askF_2 : askF 2 = some askFz := by simp [askF]
theorem askF_3 : askF 3 = some askF3 := by simp [askF]
theorem askF_4 : askF 4 = some askFz := by simp [askF]
theorem askF_13 : askF 13 = some askFz := by simp [askF]
theorem askF_5 : askF 5 = some askF5 := by simp [askF]
theorem askF_6 : askF 6 = some askFf := by simp [askF]
theorem askF_7 : askF 7 = some askFf := by simp [askF]
theorem askF_8 : askF 8 = some askF8 := by simp [askF]
theorem askF_9 : askF 9 = some askF9 := by simp [askF]
theorem askF_10 : askF 10 = some askF10 := by simp [askF]
theorem askF_12 : askF 12 = some askFz := by simp [askF]
theorem askF_14 : askF 14 = some askF14 := by simp [askF]
theorem askF_16 : askF 16 = some askFf := by simp [askF]
theorem askF_17 : askF 17 = some askF17 := by simp [askF]
theorem askF_18 : askF 18 = some askF18 := by simp [askF]
theorem sayF_0 : sayF 0 = some sayF0 := by simp [sayF]
theorem sayF_1 : sayF 1 = some sayFz := by simp [sayF]
theorem sayF_2 : sayF 2 = some sayFz := by simp [sayF]
theorem sayF_3 : sayF 3 = some sayFz := by simp [sayF]
theorem sayF_4 : sayF 4 = some sayFz := by simp [sayF]
theorem sayF_13 : sayF 13 = some sayFz := by simp [sayF]
theorem sayF_5 : sayF 5 = some sayF5 := by simp [sayF]
theorem sayF_6 : sayF 6 = some sayFz := by simp [sayF]
theorem sayF_7 : sayF 7 = some sayFz := by simp [sayF]
theorem sayF_8 : sayF 8 = some sayF8 := by simp [sayF]
theorem sayF_9 : sayF 9 = some sayF9 := by simp [sayF]
theorem sayF_10 : sayF 10 = some sayFz := by simp [sayF]
theorem sayF_14 : sayF 14 = some sayF14 := by simp [sayF]
theorem sayF_16 : sayF 16 = some sayF16 := by simp [sayF]
theorem sayF_17 : sayF 17 = some sayFz := by simp [sayF]
theorem sayF_18 : sayF 18 = some sayF18 := by simp [sayF]
theorem talkGetAsk_any {c : Int} (h0 : 0 ≤ c) (hk : known8 c = true) {s : Value} {l : List UInt8} (hb : BytesAt w s l) (hl : l.length ≤ 1099511627776) :
    CallP Tryz.prog 93 #[.int .u16 c, s] w (fun r w' => Upd noB w w' ∧ AskRes w' w.heap.size r (askG c l)) := by
  rcases in8 h0 hk with rfl | rfl | rfl | rfl | rfl | rfl
  · rw [askG_of askF_0]; exact talkGetAsk0 hb hl
  · rw [askG_of askF_1]; exact talkGetAsk1 hb hl
  · rw [askG_of askF_2]; exact talkGetAsk2 hb hl
  · rw [askG_of askF_3]; exact talkGetAsk3 hb hl
  · rw [askG_of askF_4]; exact talkGetAsk4 hb hl
  · rw [askG_of askF_13]; exact talkGetAsk13 hb hl
theorem talkGetSay_any {c : Int} (h0 : 0 ≤ c) (hk : known8 c = true) {s : Value} {l : List UInt8} (hb : BytesAt w s l) (hl : l.length ≤ 1099511627776) :
    CallP Tryz.prog 95 #[.int .u16 c, s] w (fun r w' => Upd noB w w' ∧ SayRes w' w.heap.size r (sayG c l)) := by
  rcases in8 h0 hk with rfl | rfl | rfl | rfl | rfl | rfl
  · rw [sayG_of sayF_0]; exact talkGetSay0 hb hl
  · rw [sayG_of sayF_1]; exact talkGetSay1 hb hl
  · rw [sayG_of sayF_2]; exact talkGetSay2 hb hl
  · rw [sayG_of sayF_3]; exact talkGetSay3 hb hl
  · rw [sayG_of sayF_4]; exact talkGetSay4 hb hl
  · rw [sayG_of sayF_13]; exact talkGetSay13 hb hl
theorem fileGetAsk_any {c : Int} (h0 : 0 ≤ c) (hk : known9 c = true) {s : Value} {l : List UInt8} (hb : BytesAt w s l) (hl : l.length ≤ 1099511627776) :
    CallP Tryz.prog 85 #[.int .u16 c, s] w (fun r w' => Upd noB w w' ∧ AskRes w' w.heap.size r (askG c l)) := by
  rcases in9 hk with rfl | rfl | rfl | rfl | rfl | rfl
  · rw [askG_of askF_5]; exact fileGetAsk5 hb hl
  · rw [askG_of askF_6]; exact fileGetAsk6 hb hl
  · rw [askG_of askF_7]; exact fileGetAsk7 hb hl
  · rw [askG_of askF_8]; exact fileGetAsk8 hb hl
  · rw [askG_of askF_9]; exact fileGetAsk9 hb hl
  · rw [askG_of askF_10]; exact fileGetAsk10 hb hl
theorem fileGetSay_any {c : Int} (h0 : 0 ≤ c) (hk : known9 c = true) {s : Value} {l : List UInt8} (hb : BytesAt w s l) (hl : l.length ≤ 1099511627776) :
    CallP Tryz.prog 87 #[.int .u16 c, s] w (fun r w' => Upd noB w w' ∧ SayRes w' w.heap.size r (sayG c l)) := by
  rcases in9 hk with rfl | rfl | rfl | rfl | rfl | rfl
  · rw [sayG_of sayF_5]; exact fileGetSay5 hb hl
  · rw [sayG_of sayF_6]; exact fileGetSay6 hb hl
  · rw [sayG_of sayF_7]; exact fileGetSay7 hb hl
  · rw [sayG_of sayF_8]; exact fileGetSay8 hb hl
  · rw [sayG_of sayF_9]; exact fileGetSay9 hb hl
  · rw [sayG_of sayF_10]; exact fileGetSay10 hb hl
theorem infoGetAsk_any {c : Int} (h0 : 0 ≤ c) (hk : known10 c = true) {s : Value} {l : List UInt8} (hb : BytesAt w s l) (hl : l.length ≤ 1099511627776) :
    CallP Tryz.prog 89 #[.int .u16 c, s] w (fun r w' => Upd noB w w' ∧ AskRes w' w.heap.size r (askG c l)) := by
  rcases in10 hk with rfl | rfl | rfl | rfl | rfl
  · rw [askG_of askF_12]; exact infoGetAsk12 hb hl
  · rw [askG_of askF_14]; exact infoGetAsk14 hb hl
  · rw [askG_of askF_16]; exact infoGetAsk16 hb hl
  · rw [askG_of askF_17]; exact infoGetAsk17 hb hl
  · rw [askG_of askF_18]; exact infoGetAsk18 hb hl
theorem infoGetSay_any {c : Int} (h0 : 0 ≤ c) (hk : known10 c = true) (hc : c ≠ 12) {s : Value} {l : List UInt8} (hb : BytesAt w s l) (hl : l.length ≤ 1099511627776) :
    CallP Tryz.prog 91 #[.int .u16 c, s] w (fun r w' => Upd noB w w' ∧ SayRes w' w.heap.size r (sayG c l)) := by
  rcases in10 hk with rfl | rfl | rfl | rfl | rfl
  · exact absurd rfl hc
  · rw [sayG_of sayF_14]; exact infoGetSay14 hb hl
  · rw [sayG_of sayF_16]; exact infoGetSay16 hb hl
  · rw [sayG_of sayF_17]; exact infoGetSay17 hb hl
  · rw [sayG_of sayF_18]; exact infoGetSay18 hb hl
end Go.Proofs.YtinfdomlpbikaaaGreatDoor
namespace Go.Proofs.YtinfdomlpbikaaaGreatDoor
open Go.Eng Go.Lib
set_option linter.unusedSimpArgs false
set_option linter.unusedVariables false
set_option maxRecDepth 100000
variable {w w0 : World}
structure MsgOwn (w : World) (base : Nat) (m : MsgV) (M : MsgS) : Prop where
  head : M.head = m.head
  ask : AskOwn w base m.ask M.ask
  say : SayOwn w base m.say M.say
def ParseR (w : World) (base : Nat) (r : Value) : Except Int MsgS → Prop
  | .ok M => ∃ m : MsgV, r = .tuple #[.agg m.cells, .int .i64 0] ∧ MsgOwn w base m M
  | .error e => ∃ m : MsgV, r = .tuple #[.agg m.cells, .int .i64 e]
theorem zeroAskOwn (w : World) (base : Nat) : AskOwn w base zeroA zeroAS := ⟨rfl, nilW _ _, World.ownsX_nil _ _ _ _, nilL _ _⟩
theorem zeroSayOwn (w : World) (base : Nat) : SayOwn w base zeroS zeroSS := ⟨rfl, World.ownsX_nil _ _ _ _, nilE _ _⟩
theorem bodyGet_ask {h : HeadV} (hr : ¬ hasF h.flags 1) (l : List UInt8) : bodyGet h l = match askG h.command l with | .ok a => .ok ⟨h, a, zeroSS⟩ | .error e => .error e := by
  unfold bodyGet askG
  rw [if_neg hr]
  cases askF h.command <;> rfl
theorem bodyGet_say {h : HeadV} (hr : hasF h.flags 1) (hs : h.status = 0) (l : List UInt8) : bodyGet h l = match sayG h.command l with | .ok a => .ok ⟨h, zeroAS, a⟩ | .error e => .error e := by
  unfold bodyGet sayG
  rw [if_pos hr, if_neg (by simpa using hs)]
  cases sayF h.command <;> rfl
theorem bodyGet_fault {h : HeadV} (hr : hasF h.flags 1) (hs : ¬ h.status = 0) (l : List UInt8) : bodyGet h l = if l.length < 4 then .error 4 else if l = [0, 0, 0, 0] then .ok ⟨h, zeroAS, zeroSS⟩ else .error 5 := by
  unfold bodyGet
  rw [if_pos hr, if_pos hs]
theorem known_cases {c : Int} (h0 : 0 ≤ c) (h : knownL c = true) : known8 c = true ∨ known8 c = false ∧ known9 c = true ∨ known8 c = false ∧ known9 c = false ∧ known10 c = true := by
  simp [knownL] at h
  simp [known8, known9, known10]
  omega
section
variable {W W' : World} {n0 bs : Nat}
theorem AskOwn.above {a : AskV} {A : AskS} {S : Nat → Prop} (h : AskOwn W n0 a A) (u : Upd S W W') (hS : ∀ i, S i → i < n0) : AskOwn W' n0 a A := ⟨h.f, own_above h.dia u hS, own_above h.dat u hS, own_above h.lok u hS⟩
theorem SayOwn.above {a : SayV} {A : SayS} {S : Nat → Prop} (h : SayOwn W n0 a A) (u : Upd S W W') (hS : ∀ i, S i → i < n0) : SayOwn W' n0 a A := ⟨h.f, own_above h.dat u hS, own_above h.ent u hS⟩
theorem AskOwn.base {a : AskV} {A : AskS} (h : AskOwn W n0 a A) (hb : bs ≤ n0) : AskOwn W bs a A := ⟨h.f, own_base h.dia hb, own_base h.dat hb, own_base h.lok hb⟩
theorem SayOwn.base {a : SayV} {A : SayS} (h : SayOwn W n0 a A) (hb : bs ≤ n0) : SayOwn W bs a A := ⟨h.f, own_base h.dat hb, own_base h.ent hb⟩
end
end Go.Proofs.YtinfdomlpbikaaaGreatDoor
namespace Go.Eng.Tr
open Go Go.Eng
section
variable {P : Program} {K K' : Env → World → Prop}
end
end Go.Eng.Tr
namespace Go.Proofs.YtinfdomlpbikaaaGreatDoor
open Go.Eng Go.Lib Go.Eng.Tr
set_option linter.unusedSimpArgs false
set_option linter.unusedVariables false
set_option maxRecDepth 100000
variable {w w0 : World}
def MsgR (w : World) (base : Nat) (r : Value) : Except Int MsgS → Prop
  | .ok M => ∃ m : MsgV, r = .tuple #[.agg m.cells, .int .i64 0] ∧ MsgOwn w base m M
  | .error e => r = .tuple #[.agg zeroM.cells, .int .i64 e]
theorem getOut_head {l : List UInt8} {r : Value} (h : GetOut l 0 r) : (∃ e, headGetS l = .error e ∧ e ≠ 0 ∧ r = .tuple #[.agg zeroH.cells, .int .i64 e]) ∨ ∃ h, headGetS l = .ok h ∧ h.ok ∧ knownL h.command = true ∧ 64 ≤ l.length ∧ r = .tuple #[.agg h.cells, .int .i64 0] := by
  unfold GetOut at h
  rw [Nat.sub_zero] at h
  unfold headGetS
  split at h
  · rename_i h1
    exact Or.inl ⟨4, by rw [if_pos h1], by decide, h⟩
  · rename_i h1
    split at h
    · rename_i h2
      exact Or.inl ⟨5, by rw [if_neg h1, if_pos h2], by decide, h⟩
    · rename_i h2
      refine Or.inr ⟨getH l 0, by rw [if_neg h1, if_neg h2], getH_ok l 0, ?_, by omega, h⟩
      unfold badH at h2
      simp at h2
      have := h2.2.2.1
      unfold mayL at this
      simp at this
      exact this.1
section
variable {W W' : World} {n0 bs : Nat}
theorem MsgOwn.above {a : MsgV} {A : MsgS} {S : Nat → Prop} (h : MsgOwn W n0 a A) (u : Upd S W W') (hS : ∀ i, S i → i < n0) : MsgOwn W' n0 a A := ⟨h.head, h.ask.above u hS, h.say.above u hS⟩
theorem MsgOwn.base {a : MsgV} {A : MsgS} (h : MsgOwn W n0 a A) (hb : bs ≤ n0) : MsgOwn W bs a A := ⟨h.head, h.ask.base hb, h.say.base hb⟩
def ParseS (W : World) (n0 : Nat) (m : MsgV) (e : Int) : Except Int MsgS → Prop
  | .ok M => e = 0 ∧ MsgOwn W n0 m M
  | .error e' => e = e'
theorem ParseR.form {r : Value} {x : Except Int MsgS} (h : ParseR W n0 r x) : ∃ (m : MsgV) (e : Int), r = .tuple #[.agg m.cells, .int .i64 e] ∧ ParseS W n0 m e x := by
  cases x with
  | ok M => obtain ⟨m, e, h⟩ := h; exact ⟨m, _, e, rfl, h⟩
  | error e => obtain ⟨m, h⟩ := h; exact ⟨m, _, h, rfl⟩
theorem ParseS.above {m : MsgV} {e : Int} {x : Except Int MsgS} {S : Nat → Prop} (h : ParseS W n0 m e x) (u : Upd S W W') (hS : ∀ i, S i → i < n0) : ParseS W' n0 m e x := by
  cases x with
  | ok M => exact ⟨h.1, h.2.above u hS⟩
  | error e => exact h
theorem ParseS.keep {m : MsgV} {e : Int} {x : Except Int MsgS} (h : ParseS W n0 m e x) (u : Upd noB W W') : ParseS W' n0 m e x := h.above u (fun i h => h.elim)
theorem ParseS.base {m : MsgV} {e : Int} {x : Except Int MsgS} (h : ParseS W n0 m e x) (hb : bs ≤ n0) : ParseS W bs m e x := by
  cases x with
  | ok M => exact ⟨h.1, h.2.base hb⟩
  | error e => exact h
end
/-- what is known behind the first reading -/
def R4 (w : World) (b2 b4 : Nat) (h : HeadV) (s : Value) (x : Except Int MsgS) (ρ : Env) (W : World) : Prop :=
  ∃ (b6 : Nat) (m : MsgV) (e : Int), ρ 0 = s ∧ ρ 2 = .pointer (some ⟨b2, 0, none⟩) ∧ ρ 4 = .pointer (some ⟨b4, 0, none⟩) ∧ ρ 6 = .pointer (some ⟨b6, 0, none⟩) ∧ ρ 7 = .int .i64 e ∧ Upd noB w W ∧
    W.heap[b2]? = some (.cells zeroM.cells 41 (0, 0)) ∧ W.heap[b4]? = some (.cells h.cells 28 (0, 0)) ∧ W.heap[b6]? = some (.cells m.cells 41 (0, 0)) ∧ b2 < b6 ∧
    ParseS W (b2 + 1) m e x
end Go.Proofs.YtinfdomlpbikaaaGreatDoor
namespace Go.Proofs.YtinfdomlpbikaaaGreatDoor
open Go.Eng Go.Lib
set_option linter.unusedSimpArgs false
set_option linter.unusedVariables false
set_option maxRecDepth 100000
variable {w w0 : World}
theorem or8_bytes (a b c d : UInt8) : (bits .or .u8 (bits .or .u8 (bits .or .u8 (a.toNat : Int) (b.toNat : Int)) (c.toNat : Int)) (d.toNat : Int) = 0) = (([a, b, c, d] : List UInt8) = [0, 0, 0, 0]) := by
  have ha := a.toNat_lt
  have hb := b.toNat_lt
  have hc := c.toNat_lt
  have hd := d.toNat_lt
  have h1 : a.toNat ||| b.toNat < 2 ^ 8 := Nat.or_lt_two_pow (by omega) (by omega)
  have h2 : a.toNat ||| b.toNat ||| c.toNat < 2 ^ 8 := Nat.or_lt_two_pow h1 (by omega)
  rw [or8 _ _ (by omega) (by omega), or8 _ _ (by omega) (by omega), or8 _ _ (by omega) (by omega)]
  have z : ∀ x : UInt8, x.toNat = 0 ↔ x = 0 := fun x => ⟨fun h => UInt8.toNat_inj.1 h, fun h => by rw [h]; rfl⟩
  apply propext
  rw [show (((a.toNat ||| b.toNat ||| c.toNat ||| d.toNat : Nat) : Int) = 0) ↔ (a.toNat ||| b.toNat ||| c.toNat ||| d.toNat) = 0 from by omega]
  simp only [Nat.or_eq_zero_iff, z, List.cons.injEq, and_true]
  exact ⟨fun ⟨⟨⟨h1, h2⟩, h3⟩, h4⟩ => ⟨h1, h2, h3, h4⟩, fun ⟨h1, h2, h3, h4⟩ => ⟨⟨⟨h1, h2⟩, h3⟩, h4⟩⟩
def fPA (c : Int) : FuncId := if known9 c then 84 else if known10 c then 88 else 92
def fGA (c : Int) : FuncId := if known9 c then 85 else if known10 c then 89 else 93
def fPS (c : Int) : FuncId := if known9 c then 86 else if known10 c then 90 else 94
def fGS (c : Int) : FuncId := if known9 c then 87 else if known10 c then 91 else 95
abbrev codecOf (c : Int) : Array Value := #[.func (.func (fPA c)) #[] #[], .func (.func (fGA c)) #[] #[], .func (.func (fPS c)) #[] #[], .func (.func (fGS c)) #[] #[]]
set_option maxHeartbeats 4000000 in
theorem by_any {c : Int} (h0 : 0 ≤ c) (hk : knownL c = true) (w : World) : CallP Tryz.prog 57 #[.int .u16 c] w (fun r w' => r = .agg (codecOf c) ∧ Upd noB w w') := by
  have hc : c = 0 ∨ c = 1 ∨ c = 2 ∨ c = 3 ∨ c = 4 ∨ c = 5 ∨ c = 6 ∨ c = 7 ∨ c = 8 ∨ c = 9 ∨ c = 10 ∨ c = 12 ∨ c = 13 ∨ c = 14 ∨ c = 16 ∨ c = 17 ∨ c = 18 := by
    simp [knownL] at hk; omega
  refine call_den (args := [_]) Tryz.func57 rfl rfl (by simp [Tryz.ntmps57]) ?_
  rcases hc with rfl | rfl | rfl | rfl | rfl | rfl | rfl | rfl | rfl | rfl | rfl | rfl | rfl | rfl | rfl | rfl | rfl
  all_goals
    simp [go_sem, codecOf, fPA, fGA, fPS, fGS, known9, known10]
    exact (by repeat (first | exact Upd.refl _ _ | refine Upd.alloc ?_ _ | refine Upd.drew ?_ | refine Upd.drewN ?_ _ | refine Upd.setB ?_ _ _ (fun h => absurd h (by omega))))
def codecT : Array Value := #[.func (.func 92) #[] #[], .func (.func 93) #[] #[], .func (.func 94) #[] #[], .func (.func 95) #[] #[]]
def codecF : Array Value := #[.func (.func 84) #[] #[], .func (.func 85) #[] #[], .func (.func 86) #[] #[], .func (.func 87) #[] #[]]
def codecI : Array Value := #[.func (.func 88) #[] #[], .func (.func 89) #[] #[], .func (.func 90) #[] #[], .func (.func 91) #[] #[]]
theorem codec_k8 {c : Int} (h0 : 0 ≤ c) (h : known8 c = true) : codecOf c = codecT := by
  have k9 : known9 c = false := by simp [known8, known9] at h ⊢; omega
  have k10 : known10 c = false := by simp [known8, known10] at h ⊢; omega
  simp [codecOf, fPA, fGA, fPS, fGS, k9, k10, codecT]
theorem codec_k9 {c : Int} (h0 : 0 ≤ c) (k9 : known9 c = true) : codecOf c = codecF := by
  simp [codecOf, fPA, fGA, fPS, fGS, k9, codecF]
theorem codec_k10 {c : Int} (h0 : 0 ≤ c) (h : known10 c = true) : codecOf c = codecI := by
  have k9 : known9 c = false := by simp [known10, known9] at h ⊢; omega
  simp [codecOf, fPA, fGA, fPS, fGS, k9, h, codecI]
def RdC (bx b : Nat) (cs : Array Value) (m : MsgV) (W : World) : Prop := W.heap[bx]? = some (.cells cs 92 (0, 0)) ∧ MsgAt W b m
set_option maxHeartbeats 8000000 in
theorem read_any {b : Nat} {h : HeadV} {s : Value} {l : List UInt8} (hm : MsgAt w b ⟨h, zeroA, zeroS⟩) (ok : h.ok) (hk : knownL h.command = true) (hb : BytesAt w s l) (hl : l.length ≤ 1099511627776) :
    CallP Tryz.prog 44 #[.pointer (some ⟨b, 0, none⟩), s] w (fun r w' => Upd (fun x => x = b) w w' ∧ ∃ (m : MsgV) (e : Int), r = .int .i64 e ∧ MsgAt w' b m ∧ m.head = h ∧ ParseS w' w.heap.size m e (bodyGet h l)) := by
  obtain ⟨p, cap, rfl, hcap⟩ := hb.len
  have hf := ok.flags
  have h0 := ok.command.1
  have hm' := hm
  unfold MsgAt at hm'
  refine call_den (args := [_, _]) Tryz.func44 rfl rfl (by simp [Tryz.ntmps44]) ?_
  simp [go_sem, hm']
  refine CallP.mono (by_any h0 hk _) ?_
  rintro r W ⟨rfl, u1⟩
  simp [go_sem]
  refine gen_call ?_
  intro W1 hW1
  have hu : Upd noB w W1 := by rw [hW1]; exact (u1.alloc _).setB _ _ (fun h => absurd h (by have := u1.size; omega))
  have hx : W1.heap[W.heap.size]? = some (.cells (codecOf h.command) 92 (0, 0)) := by
    rw [hW1, heap_setB, if_pos rfl, heap_alloc, if_pos rfl]; rfl
  obtain ⟨bx, hbx⟩ : ∃ bx, bx = W.heap.size := ⟨_, rfl⟩
  have hbw : w.heap.size ≤ bx := by rw [hbx]; exact u1.size
  rw [← hbx] at hx ⊢
  have hbb : b < w.heap.size := (old_ne hm').1
  have hm1 : MsgAt W1 b ⟨h, zeroA, zeroS⟩ := hu.get hm (by simp [noB])
  clear hW1 u1 hbx
  refine CallP.mono (msgFault_any hm1 hf) ?_
  rintro r W2 ⟨rfl, hW2⟩
  rw [hW2]; clear hW2; clear W2
  by_cases hrep : hasF h.flags 1
  · by_cases hst : h.status = 0
    · simp [go_sem, hrep, hst]
      rw [bodyGet_say hrep hst]
      refine CallP.mono (msgReply_any hm1 hf) ?_
      rintro r W2 ⟨rfl, hW2⟩
      rw [hW2]; clear hW2; clear W2
      by_cases h12 : h.command = 12
      · have hm1' := hm1
        unfold MsgAt at hm1'
        simp [go_sem, hrep, hm1', h12]
        rw [show sayG 12 l = .error 5 by simp [sayG, sayF]]
        exact ⟨hu.mono (fun _ _ h => h.elim), _, hm1, rfl, rfl⟩
      · have hm1' := hm1
        unfold MsgAt at hm1'
        simp [go_sem, hrep, hm1', h12]
        refine CallP.mono (msgReply_any hm1 hf) ?_
        rintro r W2 ⟨rfl, hW2⟩
        rw [hW2]; clear hW2; clear W2
        simp [go_sem, hrep]
        rcases known_cases h0 hk with k8 | ⟨k8, k9⟩ | ⟨k8, k9, k10⟩
        · skip
          have hx' : W1.heap[bx]? = some (.cells codecT 92 (0, 0)) := by rw [hx, codec_k8 h0 k8]
          have hS0 : RdC bx b codecT ⟨h, zeroA, zeroS⟩ W1.drew := ⟨hx', hm1⟩
          have hud : Upd noB w W1.drew := hu.drew
          refine draw_script [.pure 0, .pure 1, .pure 3, .pure 8, .held [2, 4, 5, 6, 7] 9, .pure 10, .held [11, 12, 13, 14] 15, .pure 16] (by kernel_rfl) (by kernel_rfl) (by kernel_rfl) ?_
          simp [go_sem]
          haveI : Nonempty { W : World // RdC bx b codecT ⟨h, zeroA, zeroS⟩ W } := ⟨⟨W1.drew, hS0⟩⟩
          have q1 : ∀ i : { W : World // RdC bx b codecT ⟨h, zeroA, zeroS⟩ W }, i.1.heap[bx]? = some (.cells #[.func (.func 92) #[] #[], .func (.func 93) #[] #[], .func (.func 94) #[] #[], .func (.func 95) #[] #[]] 92 (0, 0)) := fun i => i.2.1
          have q2 : ∀ i : { W : World // RdC bx b codecT ⟨h, zeroA, zeroS⟩ W }, i.1.heap[b]? = some (.cells (MsgV.cells ⟨h, zeroA, zeroS⟩) 66 (0, 0)) := fun i => i.2.2
          refine opsPh_held _ _ (RdC bx b codecT ⟨h, zeroA, zeroS⟩) hS0 ?_
          simp [go_sem, q1, q2]
          refine CallP.mono (talkGetSay_any h0 k8 (hb.keep0 hud) hl) ?_
          rintro r W3 ⟨u3, hres⟩
          have hm3 : MsgAt W3 b ⟨h, zeroA, zeroS⟩ := u3.get hm1 (by simp [noB])
          have hx3 := u3.get hx' (by simp [noB])
          have hsz := hud.size
          have hu3 := hud.trans u3
          have hm3' := hm3
          unfold MsgAt at hm3'
          cases hg : sayG h.command l with
          | ok A =>
            rw [hg] at hres
            obtain ⟨a, rfl, hown⟩ := hres
            refine ⟨⟨hx3, hm3⟩, ?_⟩
            simp [go_sem]
            haveI : Nonempty { W : World // AnyS W } := ⟨⟨W3, trivial⟩⟩
            refine opsPh_held _ _ AnyS trivial ?_
            simp [go_sem, hm3']
            refine ⟨trivial, (hu3.mono (fun _ _ h => h.elim)).setB _ _ (fun _ => rfl), MsgV.mk h zeroA a, ?_, rfl, rfl, rfl, zeroAskOwn _ _, (hown.above (S := fun i => i = b) ((Upd.refl _ _).setB _ _ (fun _ => rfl)) (fun i hi => by omega)).base (by omega)⟩
            unfold MsgAt
            rw [heap_setB, if_pos rfl, hm3']
            rfl
          | error e =>
            rw [hg] at hres
            subst hres
            refine ⟨⟨hx3, hm3⟩, ?_⟩
            simp [go_sem]
            haveI : Nonempty { W : World // AnyS W } := ⟨⟨W3, trivial⟩⟩
            refine opsPh_held _ _ AnyS trivial ?_
            simp [go_sem, hm3']
            refine ⟨trivial, (hu3.mono (fun _ _ h => h.elim)).setB _ _ (fun _ => rfl), MsgV.mk h zeroA zeroS, ?_, rfl, rfl⟩
            unfold MsgAt
            rw [heap_setB, if_pos rfl, hm3']
            rfl
        · skip
          have hx' : W1.heap[bx]? = some (.cells codecF 92 (0, 0)) := by rw [hx, codec_k9 h0 k9]
          have hS0 : RdC bx b codecF ⟨h, zeroA, zeroS⟩ W1.drew := ⟨hx', hm1⟩
          have hud : Upd noB w W1.drew := hu.drew
          refine draw_script [.pure 0, .pure 1, .pure 3, .pure 8, .held [2, 4, 5, 6, 7] 9, .pure 10, .held [11, 12, 13, 14] 15, .pure 16] (by kernel_rfl) (by kernel_rfl) (by kernel_rfl) ?_
          simp [go_sem]
          haveI : Nonempty { W : World // RdC bx b codecF ⟨h, zeroA, zeroS⟩ W } := ⟨⟨W1.drew, hS0⟩⟩
          have q1 : ∀ i : { W : World // RdC bx b codecF ⟨h, zeroA, zeroS⟩ W }, i.1.heap[bx]? = some (.cells #[.func (.func 84) #[] #[], .func (.func 85) #[] #[], .func (.func 86) #[] #[], .func (.func 87) #[] #[]] 92 (0, 0)) := fun i => i.2.1
          have q2 : ∀ i : { W : World // RdC bx b codecF ⟨h, zeroA, zeroS⟩ W }, i.1.heap[b]? = some (.cells (MsgV.cells ⟨h, zeroA, zeroS⟩) 66 (0, 0)) := fun i => i.2.2
          refine opsPh_held _ _ (RdC bx b codecF ⟨h, zeroA, zeroS⟩) hS0 ?_
          simp [go_sem, q1, q2]
          refine CallP.mono (fileGetSay_any h0 k9 (hb.keep0 hud) hl) ?_
          rintro r W3 ⟨u3, hres⟩
          have hm3 : MsgAt W3 b ⟨h, zeroA, zeroS⟩ := u3.get hm1 (by simp [noB])
          have hx3 := u3.get hx' (by simp [noB])
          have hsz := hud.size
          have hu3 := hud.trans u3
          have hm3' := hm3
          unfold MsgAt at hm3'
          cases hg : sayG h.command l with
          | ok A =>
            rw [hg] at hres
            obtain ⟨a, rfl, hown⟩ := hres
            refine ⟨⟨hx3, hm3⟩, ?_⟩
            simp [go_sem]
            haveI : Nonempty { W : World // AnyS W } := ⟨⟨W3, trivial⟩⟩
            refine opsPh_held _ _ AnyS trivial ?_
            simp [go_sem, hm3']
            refine ⟨trivial, (hu3.mono (fun _ _ h => h.elim)).setB _ _ (fun _ => rfl), MsgV.mk h zeroA a, ?_, rfl, rfl, rfl, zeroAskOwn _ _, (hown.above (S := fun i => i = b) ((Upd.refl _ _).setB _ _ (fun _ => rfl)) (fun i hi => by omega)).base (by omega)⟩
            unfold MsgAt
            rw [heap_setB, if_pos rfl, hm3']
            rfl
          | error e =>
            rw [hg] at hres
            subst hres
            refine ⟨⟨hx3, hm3⟩, ?_⟩
            simp [go_sem]
            haveI : Nonempty { W : World // AnyS W } := ⟨⟨W3, trivial⟩⟩
            refine opsPh_held _ _ AnyS trivial ?_
            simp [go_sem, hm3']
            refine ⟨trivial, (hu3.mono (fun _ _ h => h.elim)).setB _ _ (fun _ => rfl), MsgV.mk h zeroA zeroS, ?_, rfl, rfl⟩
            unfold MsgAt
            rw [heap_setB, if_pos rfl, hm3']
            rfl
        · skip
          have hx' : W1.heap[bx]? = some (.cells codecI 92 (0, 0)) := by rw [hx, codec_k10 h0 k10]
          have hS0 : RdC bx b codecI ⟨h, zeroA, zeroS⟩ W1.drew := ⟨hx', hm1⟩
          have hud : Upd noB w W1.drew := hu.drew
          refine draw_script [.pure 0, .pure 1, .pure 3, .pure 8, .held [2, 4, 5, 6, 7] 9, .pure 10, .held [11, 12, 13, 14] 15, .pure 16] (by kernel_rfl) (by kernel_rfl) (by kernel_rfl) ?_
          simp [go_sem]
          haveI : Nonempty { W : World // RdC bx b codecI ⟨h, zeroA, zeroS⟩ W } := ⟨⟨W1.drew, hS0⟩⟩
          have q1 : ∀ i : { W : World // RdC bx b codecI ⟨h, zeroA, zeroS⟩ W }, i.1.heap[bx]? = some (.cells #[.func (.func 88) #[] #[], .func (.func 89) #[] #[], .func (.func 90) #[] #[], .func (.func 91) #[] #[]] 92 (0, 0)) := fun i => i.2.1
          have q2 : ∀ i : { W : World // RdC bx b codecI ⟨h, zeroA, zeroS⟩ W }, i.1.heap[b]? = some (.cells (MsgV.cells ⟨h, zeroA, zeroS⟩) 66 (0, 0)) := fun i => i.2.2
          refine opsPh_held _ _ (RdC bx b codecI ⟨h, zeroA, zeroS⟩) hS0 ?_
          simp [go_sem, q1, q2]
          refine CallP.mono (infoGetSay_any h0 k10 h12 (hb.keep0 hud) hl) ?_
          rintro r W3 ⟨u3, hres⟩
          have hm3 : MsgAt W3 b ⟨h, zeroA, zeroS⟩ := u3.get hm1 (by simp [noB])
          have hx3 := u3.get hx' (by simp [noB])
          have hsz := hud.size
          have hu3 := hud.trans u3
          have hm3' := hm3
          unfold MsgAt at hm3'
          cases hg : sayG h.command l with
          | ok A =>
            rw [hg] at hres
            obtain ⟨a, rfl, hown⟩ := hres
            refine ⟨⟨hx3, hm3⟩, ?_⟩
            simp [go_sem]
            haveI : Nonempty { W : World // AnyS W } := ⟨⟨W3, trivial⟩⟩
            refine opsPh_held _ _ AnyS trivial ?_
            simp [go_sem, hm3']
            refine ⟨trivial, (hu3.mono (fun _ _ h => h.elim)).setB _ _ (fun _ => rfl), MsgV.mk h zeroA a, ?_, rfl, rfl, rfl, zeroAskOwn _ _, (hown.above (S := fun i => i = b) ((Upd.refl _ _).setB _ _ (fun _ => rfl)) (fun i hi => by omega)).base (by omega)⟩
            unfold MsgAt
            rw [heap_setB, if_pos rfl, hm3']
            rfl
          | error e =>
            rw [hg] at hres
            subst hres
            refine ⟨⟨hx3, hm3⟩, ?_⟩
            simp [go_sem]
            haveI : Nonempty { W : World // AnyS W } := ⟨⟨W3, trivial⟩⟩
            refine opsPh_held _ _ AnyS trivial ?_
            simp [go_sem, hm3']
            refine ⟨trivial, (hu3.mono (fun _ _ h => h.elim)).setB _ _ (fun _ => rfl), MsgV.mk h zeroA zeroS, ?_, rfl, rfl⟩
            unfold MsgAt
            rw [heap_setB, if_pos rfl, hm3']
            rfl
    · simp [go_sem, hrep, hst]
      rw [bodyGet_fault hrep hst]
      by_cases h4 : l.length < 4
      · have h4' : (l.length : Int) < 4 := by omega
        simp [go_sem, h4, h4']
        exact ⟨hu.mono (fun _ _ h => h.elim), _, hm1, rfl, rfl⟩
      · have h4' : ¬ (l.length : Int) < 4 := by omega
        simp [go_sem, h4, h4']
        by_cases h5 : (4 : Int) < l.length
        · have hne : ¬ l = [0, 0, 0, 0] := fun e => by rw [e] at h5; simp at h5
          refine draw_script [.pure 0, .one 1, .one 2, .pure 3, .pure 4, .pure 7, .pure 11, .pure 15, .still [5, 6, 8, 9, 10, 12, 13, 14, 16, 17], .one 18, .one 19, .one 20] (by kernel_rfl) (by kernel_rfl) (by kernel_rfl) ?_
          simp [go_sem, h5, hne]
          exact ⟨hu.drew.mono (fun _ _ h => h.elim), _, hm1, rfl, rfl⟩
        · have hl4 : l.length = 4 := by omega
          obtain ⟨x0, x1, x2, x3, rfl⟩ : ∃ x0 x1 x2 x3, l = [x0, x1, x2, x3] := by
            match l, hl4 with
            | [x0, x1, x2, x3], _ => exact ⟨x0, x1, x2, x3, rfl⟩
          obtain ⟨q0, ia0, la0, _⟩ := (hb.keep0 hu.drew).at (P := Tryz.prog) (t := 31) (e := 5) Tryz.underlying31 Tryz.sizeOf5 Tryz.isAgg5 0 (by simp)
          have ka0 := Q_load_fix (P := Tryz.prog) (W := fun _ : Unit => W1.drew) (fun _ => la0)
          obtain ⟨q1, ia1, la1, _⟩ := (hb.keep0 hu.drew).at (P := Tryz.prog) (t := 31) (e := 5) Tryz.underlying31 Tryz.sizeOf5 Tryz.isAgg5 1 (by simp)
          have ka1 := Q_load_fix (P := Tryz.prog) (W := fun _ : Unit => W1.drew) (fun _ => la1)
          obtain ⟨q2, ia2, la2, _⟩ := (hb.keep0 hu.drew).at (P := Tryz.prog) (t := 31) (e := 5) Tryz.underlying31 Tryz.sizeOf5 Tryz.isAgg5 2 (by simp)
          have ka2 := Q_load_fix (P := Tryz.prog) (W := fun _ : Unit => W1.drew) (fun _ => la2)
          obtain ⟨q3, ia3, la3, _⟩ := (hb.keep0 hu.drew).at (P := Tryz.prog) (t := 31) (e := 5) Tryz.underlying31 Tryz.sizeOf5 Tryz.isAgg5 3 (by simp)
          have ka3 := Q_load_fix (P := Tryz.prog) (W := fun _ : Unit => W1.drew) (fun _ => la3)
          refine draw_script [.pure 0, .one 1, .one 2, .pure 3, .pure 4, .pure 7, .pure 11, .pure 15, .still [5, 6, 8, 9, 10, 12, 13, 14, 16, 17], .one 18, .one 19, .one 20] (by kernel_rfl) (by kernel_rfl) (by kernel_rfl) ?_
          simp at ia0 ia1 ia2 ia3 ka0 ka1 ka2 ka3
          by_cases hz : [x0, x1, x2, x3] = [0, 0, 0, 0]
          · have hor := (or8_bytes x0 x1 x2 x3).mpr hz
            simp [go_sem, ia0, ia1, ia2, ia3, ka0, ka1, ka2, ka3, hor, hz]
            exact ⟨hu.drew.mono (fun _ _ h => h.elim), _, hm1, rfl, rfl, rfl, zeroAskOwn _ _, zeroSayOwn _ _⟩
          · have hor : ¬ _ := fun h => hz ((or8_bytes x0 x1 x2 x3).mp h)
            simp [go_sem, ia0, ia1, ia2, ia3, ka0, ka1, ka2, ka3, hor, hz]
            exact ⟨hu.drew.mono (fun _ _ h => h.elim), _, hm1, rfl, rfl⟩
  · simp [go_sem, hrep]
    rw [bodyGet_ask hrep]
    refine CallP.mono (msgReply_any hm1 hf) ?_
    rintro r W2 ⟨rfl, hW2⟩
    rw [hW2]; clear hW2; clear W2
    simp [go_sem, hrep]
    refine CallP.mono (msgReply_any hm1 hf) ?_
    rintro r W2 ⟨rfl, hW2⟩
    rw [hW2]; clear hW2; clear W2
    simp [go_sem, hrep]
    rcases known_cases h0 hk with k8 | ⟨k8, k9⟩ | ⟨k8, k9, k10⟩
    · skip
      have hx' : W1.heap[bx]? = some (.cells codecT 92 (0, 0)) := by rw [hx, codec_k8 h0 k8]
      have hS0 : RdC bx b codecT ⟨h, zeroA, zeroS⟩ W1.drew := ⟨hx', hm1⟩
      have hud : Upd noB w W1.drew := hu.drew
      refine draw_script [.pure 0, .pure 1, .pure 3, .pure 8, .held [2, 4, 5, 6, 7] 9, .pure 10, .held [11, 12, 13, 14] 15, .pure 16] (by kernel_rfl) (by kernel_rfl) (by kernel_rfl) ?_
      simp [go_sem]
      haveI : Nonempty { W : World // RdC bx b codecT ⟨h, zeroA, zeroS⟩ W } := ⟨⟨W1.drew, hS0⟩⟩
      have q1 : ∀ i : { W : World // RdC bx b codecT ⟨h, zeroA, zeroS⟩ W }, i.1.heap[bx]? = some (.cells #[.func (.func 92) #[] #[], .func (.func 93) #[] #[], .func (.func 94) #[] #[], .func (.func 95) #[] #[]] 92 (0, 0)) := fun i => i.2.1
      have q2 : ∀ i : { W : World // RdC bx b codecT ⟨h, zeroA, zeroS⟩ W }, i.1.heap[b]? = some (.cells (MsgV.cells ⟨h, zeroA, zeroS⟩) 66 (0, 0)) := fun i => i.2.2
      refine opsPh_held _ _ (RdC bx b codecT ⟨h, zeroA, zeroS⟩) hS0 ?_
      simp [go_sem, q1, q2]
      refine CallP.mono (talkGetAsk_any h0 k8 (hb.keep0 hud) hl) ?_
      rintro r W3 ⟨u3, hres⟩
      have hm3 : MsgAt W3 b ⟨h, zeroA, zeroS⟩ := u3.get hm1 (by simp [noB])
      have hx3 := u3.get hx' (by simp [noB])
      have hsz := hud.size
      have hu3 := hud.trans u3
      have hm3' := hm3
      unfold MsgAt at hm3'
      cases hg : askG h.command l with
      | ok A =>
        rw [hg] at hres
        obtain ⟨a, rfl, hown⟩ := hres
        refine ⟨⟨hx3, hm3⟩, ?_⟩
        simp [go_sem]
        haveI : Nonempty { W : World // AnyS W } := ⟨⟨W3, trivial⟩⟩
        refine opsPh_held _ _ AnyS trivial ?_
        simp [go_sem, hm3']
        refine ⟨trivial, (hu3.mono (fun _ _ h => h.elim)).setB _ _ (fun _ => rfl), MsgV.mk h a zeroS, ?_, rfl, rfl, rfl, (hown.above (S := fun i => i = b) ((Upd.refl _ _).setB _ _ (fun _ => rfl)) (fun i hi => by omega)).base (by omega), zeroSayOwn _ _⟩
        unfold MsgAt
        rw [heap_setB, if_pos rfl, hm3']
        rfl
      | error e =>
        rw [hg] at hres
        subst hres
        refine ⟨⟨hx3, hm3⟩, ?_⟩
        simp [go_sem]
        haveI : Nonempty { W : World // AnyS W } := ⟨⟨W3, trivial⟩⟩
        refine opsPh_held _ _ AnyS trivial ?_
        simp [go_sem, hm3']
        refine ⟨trivial, (hu3.mono (fun _ _ h => h.elim)).setB _ _ (fun _ => rfl), MsgV.mk h zeroA zeroS, ?_, rfl, rfl⟩
        unfold MsgAt
        rw [heap_setB, if_pos rfl, hm3']
        rfl
    · skip
      have hx' : W1.heap[bx]? = some (.cells codecF 92 (0, 0)) := by rw [hx, codec_k9 h0 k9]
      have hS0 : RdC bx b codecF ⟨h, zeroA, zeroS⟩ W1.drew := ⟨hx', hm1⟩
      have hud : Upd noB w W1.drew := hu.drew
      refine draw_script [.pure 0, .pure 1, .pure 3, .pure 8, .held [2, 4, 5, 6, 7] 9, .pure 10, .held [11, 12, 13, 14] 15, .pure 16] (by kernel_rfl) (by kernel_rfl) (by kernel_rfl) ?_
      simp [go_sem]
      haveI : Nonempty { W : World // RdC bx b codecF ⟨h, zeroA, zeroS⟩ W } := ⟨⟨W1.drew, hS0⟩⟩
      have q1 : ∀ i : { W : World // RdC bx b codecF ⟨h, zeroA, zeroS⟩ W }, i.1.heap[bx]? = some (.cells #[.func (.func 84) #[] #[], .func (.func 85) #[] #[], .func (.func 86) #[] #[], .func (.func 87) #[] #[]] 92 (0, 0)) := fun i => i.2.1
      have q2 : ∀ i : { W : World // RdC bx b codecF ⟨h, zeroA, zeroS⟩ W }, i.1.heap[b]? = some (.cells (MsgV.cells ⟨h, zeroA, zeroS⟩) 66 (0, 0)) := fun i => i.2.2
      refine opsPh_held _ _ (RdC bx b codecF ⟨h, zeroA, zeroS⟩) hS0 ?_
      simp [go_sem, q1, q2]
      refine CallP.mono (fileGetAsk_any h0 k9 (hb.keep0 hud) hl) ?_
      rintro r W3 ⟨u3, hres⟩
      have hm3 : MsgAt W3 b ⟨h, zeroA, zeroS⟩ := u3.get hm1 (by simp [noB])
      have hx3 := u3.get hx' (by simp [noB])
      have hsz := hud.size
      have hu3 := hud.trans u3
      have hm3' := hm3
      unfold MsgAt at hm3'
      cases hg : askG h.command l with
      | ok A =>
        rw [hg] at hres
        obtain ⟨a, rfl, hown⟩ := hres
        refine ⟨⟨hx3, hm3⟩, ?_⟩
        simp [go_sem]
        haveI : Nonempty { W : World // AnyS W } := ⟨⟨W3, trivial⟩⟩
        refine opsPh_held _ _ AnyS trivial ?_
        simp [go_sem, hm3']
        refine ⟨trivial, (hu3.mono (fun _ _ h => h.elim)).setB _ _ (fun _ => rfl), MsgV.mk h a zeroS, ?_, rfl, rfl, rfl, (hown.above (S := fun i => i = b) ((Upd.refl _ _).setB _ _ (fun _ => rfl)) (fun i hi => by omega)).base (by omega), zeroSayOwn _ _⟩
        unfold MsgAt
        rw [heap_setB, if_pos rfl, hm3']
        rfl
      | error e =>
        rw [hg] at hres
        subst hres
        refine ⟨⟨hx3, hm3⟩, ?_⟩
        simp [go_sem]
        haveI : Nonempty { W : World // AnyS W } := ⟨⟨W3, trivial⟩⟩
        refine opsPh_held _ _ AnyS trivial ?_
        simp [go_sem, hm3']
        refine ⟨trivial, (hu3.mono (fun _ _ h => h.elim)).setB _ _ (fun _ => rfl), MsgV.mk h zeroA zeroS, ?_, rfl, rfl⟩
        unfold MsgAt
        rw [heap_setB, if_pos rfl, hm3']
        rfl
    · skip
      have hx' : W1.heap[bx]? = some (.cells codecI 92 (0, 0)) := by rw [hx, codec_k10 h0 k10]
      have hS0 : RdC bx b codecI ⟨h, zeroA, zeroS⟩ W1.drew := ⟨hx', hm1⟩
      have hud : Upd noB w W1.drew := hu.drew
      refine draw_script [.pure 0, .pure 1, .pure 3, .pure 8, .held [2, 4, 5, 6, 7] 9, .pure 10, .held [11, 12, 13, 14] 15, .pure 16] (by kernel_rfl) (by kernel_rfl) (by kernel_rfl) ?_
      simp [go_sem]
      haveI : Nonempty { W : World // RdC bx b codecI ⟨h, zeroA, zeroS⟩ W } := ⟨⟨W1.drew, hS0⟩⟩
      have q1 : ∀ i : { W : World // RdC bx b codecI ⟨h, zeroA, zeroS⟩ W }, i.1.heap[bx]? = some (.cells #[.func (.func 88) #[] #[], .func (.func 89) #[] #[], .func (.func 90) #[] #[], .func (.func 91) #[] #[]] 92 (0, 0)) := fun i => i.2.1
      have q2 : ∀ i : { W : World // RdC bx b codecI ⟨h, zeroA, zeroS⟩ W }, i.1.heap[b]? = some (.cells (MsgV.cells ⟨h, zeroA, zeroS⟩) 66 (0, 0)) := fun i => i.2.2
      refine opsPh_held _ _ (RdC bx b codecI ⟨h, zeroA, zeroS⟩) hS0 ?_
      simp [go_sem, q1, q2]
      refine CallP.mono (infoGetAsk_any h0 k10 (hb.keep0 hud) hl) ?_
      rintro r W3 ⟨u3, hres⟩
      have hm3 : MsgAt W3 b ⟨h, zeroA, zeroS⟩ := u3.get hm1 (by simp [noB])
      have hx3 := u3.get hx' (by simp [noB])
      have hsz := hud.size
      have hu3 := hud.trans u3
      have hm3' := hm3
      unfold MsgAt at hm3'
      cases hg : askG h.command l with
      | ok A =>
        rw [hg] at hres
        obtain ⟨a, rfl, hown⟩ := hres
        refine ⟨⟨hx3, hm3⟩, ?_⟩
        simp [go_sem]
        haveI : Nonempty { W : World // AnyS W } := ⟨⟨W3, trivial⟩⟩
        refine opsPh_held _ _ AnyS trivial ?_
        simp [go_sem, hm3']
        refine ⟨trivial, (hu3.mono (fun _ _ h => h.elim)).setB _ _ (fun _ => rfl), MsgV.mk h a zeroS, ?_, rfl, rfl, rfl, (hown.above (S := fun i => i = b) ((Upd.refl _ _).setB _ _ (fun _ => rfl)) (fun i hi => by omega)).base (by omega), zeroSayOwn _ _⟩
        unfold MsgAt
        rw [heap_setB, if_pos rfl, hm3']
        rfl
      | error e =>
        rw [hg] at hres
        subst hres
        refine ⟨⟨hx3, hm3⟩, ?_⟩
        simp [go_sem]
        haveI : Nonempty { W : World // AnyS W } := ⟨⟨W3, trivial⟩⟩
        refine opsPh_held _ _ AnyS trivial ?_
        simp [go_sem, hm3']
        refine ⟨trivial, (hu3.mono (fun _ _ h => h.elim)).setB _ _ (fun _ => rfl), MsgV.mk h zeroA zeroS, ?_, rfl, rfl⟩
        unfold MsgAt
        rw [heap_setB, if_pos rfl, hm3']
        rfl
end Go.Proofs.YtinfdomlpbikaaaGreatDoor
namespace Go.Proofs.YtinfdomlpbikaaaGreatDoor
open Go.Eng Go.Lib
set_option linter.unusedSimpArgs false
set_option linter.unusedVariables false
set_option maxRecDepth 100000
variable {w w0 : World}
/-- the lengths without zeros, by the program -/
def LP (w : World) (b2 b4 : Nat) (h : HeadV) (rs : Value) (e0 : Int) (n0 : Nat) (B : List UInt8) (j : Nat) (ρ : Env) (W : World) : Prop :=
  ∃ n : Nat, j = 8 - n ∧ 1 ≤ n ∧ n ≤ 8 ∧ ρ 8 = .int .i64 n ∧ ρ 5 = .int .i64 e0 ∧ ρ 2 = .pointer (some ⟨b2, 0, none⟩) ∧ ρ 4 = .pointer (some ⟨b4, 0, none⟩) ∧ ρ 7 = rs ∧ (∃ l cap p, ρ 0 = .slice p l cap ∧ l = n0) ∧
    n - 1 ≤ B.length ∧ zeros (B.drop (B.length - (n - 1))) = true ∧ findN h B 8 0 = findN h B (8 - n) n ∧ Upd noB w W ∧ W.heap[b2]? = some (.cells zeroM.cells 41 (0, 0)) ∧ W.heap[b4]? = some (.cells h.cells 28 (0, 0))
set_option maxHeartbeats 8000000 in
theorem msgGetP_any {s : Value} {l : List UInt8} (hb : BytesAt w s l) (hl : l.length ≤ 1099511627776) :
    CallP Tryz.prog 18 #[s] w (fun r w' => Upd noB w w' ∧ MsgR w' w.heap.size r (msgGet l)) := by
  obtain ⟨p, cap, rfl, hcap⟩ := hb.len
  refine call_den (args := [_]) Tryz.func18 rfl rfl (by simp [Tryz.ntmps18]) ?_
  simp [go_sem]
  refine CallP.mono (headGet_any (hb.keep0 (by repeat (first | exact Upd.refl _ _ | refine Upd.alloc ?_ _ | refine Upd.drew ?_ | refine Upd.drewN ?_ _ | refine Upd.setB ?_ _ _ (fun h => absurd h (by omega))))) (by omega) 0 (Nat.zero_le _)) ?_
  rintro r W ⟨u1, hres⟩
  have hu : Upd noB w W := Upd.trans ((Upd.refl _ _).alloc _) u1
  have hz0 : W.heap[w.heap.size]? = some (.cells zeroM.cells 41 (0, 0)) := u1.get (by rw [heap_alloc, if_pos rfl]) (by simp [noB])
  clear u1
  have hn := hu.size
  have hlt := (old_ne hz0).1
  rcases getOut_head hres with ⟨e, hg, he, rfl⟩ | ⟨h, hg, ok, hk, h64, rfl⟩
  · simp [go_sem, he]
    have hu2 : Upd noB w ((W.alloc (.cells zeroH.cells 28)).setB W.heap.size (.cells zeroH.cells 28)) := (hu.alloc _).setB _ _ (fun h => absurd h (by omega))
    have hz2 : ((W.alloc (.cells zeroH.cells 28)).setB W.heap.size (.cells zeroH.cells 28)).heap[w.heap.size]? = some (.cells zeroM.cells 41 (0, 0)) := by rw [heap_setB, if_neg (by omega), heap_alloc, if_neg (by omega)]; exact hz0
    generalize hW2 : (W.alloc (.cells zeroH.cells 28)).setB W.heap.size (.cells zeroH.cells 28) = W2 at hu2 hz2 ⊢
    simp [go_sem, hz2]
    refine ⟨hu2.setB _ _ (fun h => absurd h (by omega)), ?_⟩
    unfold msgGet
    rw [hg]
    rfl
  · obtain ⟨b, off, rfl⟩ : ∃ b off, p = some ⟨b, off, none⟩ := by
      rcases hb.1.2 with ⟨q, c, hv, h0⟩ | ⟨b, off, c, cc, te, f, hv, _⟩
      · omega
      · injection hv with h1
        exact ⟨b, off, h1⟩
    have e64 : (64 : Int) ≤ l.length := by omega
    simp [go_sem, e64]
    refine gen_call ?_
    intro W2 hW2
    have hu2 : Upd noB w W2 := by rw [hW2]; exact ((hu.alloc _).setB _ _ (fun h => absurd h (by omega))).alloc _
    have hz2 : W2.heap[w.heap.size]? = some (.cells zeroM.cells 41 (0, 0)) := by rw [hW2, heap_alloc, if_neg (by simp [size_setB]; omega), heap_setB, if_neg (by omega), heap_alloc, if_neg (by omega)]; exact hz0
    have hh2 : W2.heap[W.heap.size]? = some (.cells h.cells 28 (0, 0)) := by rw [hW2, heap_alloc, if_neg (by simp [size_setB]), heap_setB, if_pos rfl, heap_alloc, if_pos rfl]; (try rfl)
    have hm2 : MsgAt W2 (W.heap.size + 1) ⟨h, zeroA, zeroS⟩ := by unfold MsgAt; rw [hW2, heap_alloc, if_pos (by simp [size_setB])]; (try rfl)
    clear hW2 hz0 hu hres
    generalize hbm : W.heap.size + 1 = bm at *
    generalize W.heap.size = b4 at *
    have key := hb.cut (lo := 64) (hi := l.length) (m := cap) (by omega) (Nat.le_refl _) hcap
    have e1 : sliced (some ⟨b, off, none⟩) 64 l.length cap 1 = Value.slice (if cap = 64 then some ⟨b, off, none⟩ else some ⟨b, off + 64, none⟩) (l.length - 64) (cap - 64) := by
      unfold sliced; by_cases h : cap = 64 <;> simp [h, addr_add]
    have hBl : (l.drop 64).length = l.length - 64 := by simp
    rw [e1, List.take_of_length_le (by simp), ← hBl] at key
    rw [← hBl]
    have hmsg : msgGet l = if h.next = 0 then bodyGet h (l.drop 64) else if l.length % 8 ≠ 0 then (match bodyGet h (l.drop 64) with | .ok _ => .error 5 | .error e => .error e) else match findN h (l.drop 64) 8 0 with
      | some m => .ok m
      | none => (match bodyGet h (l.drop 64) with | .ok _ => .error 5 | .error e => .error e) := by
      unfold msgGet; simp only [hg]
      rfl
    rw [hmsg]
    clear hmsg
    generalize (if cap = 64 then some (⟨b, off, none⟩ : Addr) else some ⟨b, off + 64, none⟩) = pr at *
    have hbmlt := (old_ne hm2).1
    generalize l.drop 64 = B at *
    refine CallP.mono (read_any hm2 ok hk (key.keep0 hu2) (by omega)) ?_
    rintro r W3 ⟨u3, m, e, rfl, hm3, hmh, hp⟩
    have hu3 : Upd noB w W3 := hu2.trans' u3 (fun i hi hlt => by omega)
    have hz3 := u3.get hz2 (by omega)
    have hh3 := u3.get hh2 (by omega)
    have hnz := body_nz h B
    have hn2 := hu2.size
    have hnx := ok.next
    have hbm2 := (old_ne hm3).1
    by_cases hn0 : h.next = 0
    · rw [if_pos hn0]
      cases hx : bodyGet h B with
      | ok M =>
        rw [hx] at hp
        obtain ⟨rfl, hown⟩ := hp
        simp [go_sem, hh3, hn0]
        have hmd : W3.drew.heap[bm]? = some (.cells m.cells 66 (0, 0)) := hm3
        have la : (Instr.loadAt 28 (.pointer (some ⟨bm, 0, none⟩))).run Tryz.prog W3.drew = .ok (.agg m.head.cells) W3.drew :=
          loadAt_cut (W := W3.drew) (b := bm) (o := 0) (Tryz.isAgg28 _) (Tryz.sizeOf28 _) (by rw [hmd]; exact msg_cut0 m _ _)
        have lb : (Instr.loadAt 34 (.pointer (some ⟨bm, 26, none⟩))).run Tryz.prog W3.drew = .ok (.agg m.ask.cells) W3.drew :=
          loadAt_cut (W := W3.drew) (b := bm) (o := 26) (Tryz.isAgg34 _) (Tryz.sizeOf34 _) (by rw [hmd]; exact msg_cut1 m _ _)
        have lc : (Instr.loadAt 39 (.pointer (some ⟨bm, 95, none⟩))).run Tryz.prog W3.drew = .ok (.agg m.say.cells) W3.drew :=
          loadAt_cut (W := W3.drew) (b := bm) (o := 95) (Tryz.isAgg39 _) (Tryz.sizeOf39 _) (by rw [hmd]; exact msg_cut2 m _ _)
        refine draw_script [.pure 0, .pure 4, .pure 8, .still [1, 2, 3, 5, 6, 7, 9, 10, 11], .one 12, .one 13, .pure 14] (by kernel_rfl) (by kernel_rfl) (by kernel_rfl) ?_
        simp [go_sem, Q_load_fix (W := fun _ : Unit => W3.drew) (fun _ => la), Q_load_fix (W := fun _ : Unit => W3.drew) (fun _ => lb), Q_load_fix (W := fun _ : Unit => W3.drew) (fun _ => lc), hz3]
        refine ⟨(hu3.drew).setB _ _ (fun h => absurd h (by omega)), m, rfl, ?_⟩
        refine (MsgOwn.above (S := fun i => i = w.heap.size) (W := W3.drew) (MsgOwn.above (S := noB) hown ((Upd.refl noB W3).drew) (fun i hi => hi.elim)) ((Upd.refl _ _).setB w.heap.size _ (fun _ => rfl)) (fun i hi => by omega)).base (by omega)
      | error e' =>
        rw [hx] at hp hnz
        have hp : e = e' := hp
        subst hp
        have he : ¬ e = 0 := fun h => hnz (by rw [h])
        simp [go_sem, he, hh3, hn0, hz3]
        exact ⟨hu3.setB _ _ (fun h => absurd h (by omega)), rfl⟩
    · rw [if_neg hn0]
      have hnp : 0 < h.next := by omega
      cases hx : bodyGet h B with
      | ok M =>
        rw [hx] at hp
        obtain ⟨rfl, hown⟩ := hp
        by_cases h8 : l.length % 8 = 0
        · rw [if_neg (by omega), find_zero hx]
          have htm : (l.length : Int).tmod 8 = 0 := by show ((l.length % 8 : Nat) : Int) = 0; omega
          simp [go_sem, hh3, hnp, htm]
          have hmd : W3.drew.heap[bm]? = some (.cells m.cells 66 (0, 0)) := hm3
          have la : (Instr.loadAt 28 (.pointer (some ⟨bm, 0, none⟩))).run Tryz.prog W3.drew = .ok (.agg m.head.cells) W3.drew :=
            loadAt_cut (W := W3.drew) (b := bm) (o := 0) (Tryz.isAgg28 _) (Tryz.sizeOf28 _) (by rw [hmd]; exact msg_cut0 m _ _)
          have lb : (Instr.loadAt 34 (.pointer (some ⟨bm, 26, none⟩))).run Tryz.prog W3.drew = .ok (.agg m.ask.cells) W3.drew :=
            loadAt_cut (W := W3.drew) (b := bm) (o := 26) (Tryz.isAgg34 _) (Tryz.sizeOf34 _) (by rw [hmd]; exact msg_cut1 m _ _)
          have lc : (Instr.loadAt 39 (.pointer (some ⟨bm, 95, none⟩))).run Tryz.prog W3.drew = .ok (.agg m.say.cells) W3.drew :=
            loadAt_cut (W := W3.drew) (b := bm) (o := 95) (Tryz.isAgg39 _) (Tryz.sizeOf39 _) (by rw [hmd]; exact msg_cut2 m _ _)
          refine draw_script [.pure 0, .pure 4, .pure 8, .still [1, 2, 3, 5, 6, 7, 9, 10, 11], .one 12, .one 13, .pure 14] (by kernel_rfl) (by kernel_rfl) (by kernel_rfl) ?_
          simp [go_sem, Q_load_fix (W := fun _ : Unit => W3.drew) (fun _ => la), Q_load_fix (W := fun _ : Unit => W3.drew) (fun _ => lb), Q_load_fix (W := fun _ : Unit => W3.drew) (fun _ => lc), hz3]
          refine ⟨(hu3.drew).setB _ _ (fun h => absurd h (by omega)), m, rfl, ?_⟩
          refine (MsgOwn.above (S := fun i => i = w.heap.size) (W := W3.drew) (MsgOwn.above (S := noB) hown ((Upd.refl noB W3).drew) (fun i hi => hi.elim)) ((Upd.refl _ _).setB w.heap.size _ (fun _ => rfl)) (fun i hi => by omega)).base (by omega)
        · rw [if_pos h8]
          have htm : ((l.length : Int).tmod 8 != 0) = true := by
            have : (l.length : Int).tmod 8 = ((l.length % 8 : Nat) : Int) := rfl
            rw [this, bne_iff_ne]; omega
          simp [go_sem, hh3, hnp]
          simp [go_sem, htm, hz3]
          exact ⟨hu3.setB _ _ (fun h => absurd h (by omega)), rfl⟩
      | error e' =>
        rw [hx] at hp hnz
        have hp : e = e' := hp
        subst hp
        have he : ¬ e = 0 := fun h => hnz (by rw [h])
        by_cases h8 : l.length % 8 = 0
        · rw [if_neg (by omega)]
          have htm : (l.length : Int).tmod 8 = 0 := by show ((l.length % 8 : Nat) : Int) = 0; omega
          simp [go_sem, hh3, hnp, he, htm]
          refine den_loop (LP w w.heap.size b4 h (.slice pr B.length (cap - 64)) e l.length B) 7 ?_ ?_
          · exact ⟨1, rfl, by omega, by omega, by simp [go_sem], by simp [go_sem], by simp [go_sem], by simp [go_sem], by simp [go_sem], ⟨_, cap, some ⟨b, off, none⟩, by simp [go_sem], rfl⟩, by omega, by simp [zeros], find_first hx 7, hu3, hz3, hh3⟩
          rintro j ρ W ⟨n, rfl, hn1, hn8, g8, g5, g2, g4, g7, ⟨_, cp, pp, g0, rfl⟩, hnl, hzr, hf, hu, hz, hh⟩
          have hwn : IntKind.i64.wrap ((B.length : Int) - n) = if n ≤ B.length then ((B.length - n : Nat) : Int) else (B.length : Int) - n := by
            rw [wrap64_id (by omega) (by omega)]; split <;> omega
          by_cases c1 : (n : Int) < 8
          · by_cases c2 : n ≤ B.length
            · rw [if_pos c2] at hwn
              have c3 : B.length - n < B.length := by omega
              obtain ⟨x, hx0⟩ : ∃ x, x = B[B.length - n] := ⟨_, rfl⟩
              obtain ⟨q, ia, la, ka⟩ := (key.keep0 hu).at (P := Tryz.prog) (t := 31) (e := 5) Tryz.underlying31 Tryz.sizeOf5 Tryz.isAgg5 (B.length - n) c3
              rw [← hx0] at ka
              have hzb : zeros (B.drop (B.length - n)) = (x == 0) := by
                have := zeros_back B (n - 1) (by omega)
                rw [hzr, Bool.and_true] at this
                have en : n - 1 + 1 = n := by omega
                simp only [en] at this
                rw [this, hx0]
              by_cases hx1 : x = 0
              · subst hx1
                simp [go_sem, g8, g7, c1, c2, hwn, ia, ka, g4, hh]
                have ek : B.length ≤ cap - 64 + n := by omega
                simp [go_sem, ek]
                refine gen_call ?_
                intro W5 hW5
                have ha : Upd noB W W5 := by rw [hW5]; exact (Upd.refl _ _).alloc _
                have hm5 : MsgAt W5 W.heap.size ⟨h, zeroA, zeroS⟩ := by unfold MsgAt; rw [hW5, heap_alloc, if_pos rfl]; (try rfl)
                have hz5 := ha.get hz (by simp [noB])
                have hh5 := ha.get hh (by simp [noB])
                have hu5 := hu.trans ha
                have hsW := hu.size
                have hm5lt := (old_ne hm5).1
                clear hW5
                obtain ⟨b9, hb9⟩ : ∃ b9, b9 = W.heap.size := ⟨_, rfl⟩
                rw [← hb9] at hm5 hm5lt hsW ⊢
                have key5 : BytesAt w (.slice pr (B.length - n) (cap - 64)) (B.take (B.length - n)) := by
                  have := key.cut (lo := 0) (hi := B.length - n) (m := cap - 64) (Nat.zero_le _) (by omega) (by omega)
                  have e0 : sliced pr 0 (B.length - n) (cap - 64) 1 = Value.slice pr (B.length - n) (cap - 64) := by
                    unfold sliced; cases pr <;> simp [Addr.add]
                  rw [e0] at this
                  simpa using this
                have hBt : (B.take (B.length - n)).length ≤ 1099511627776 := by simp; omega
                have hnz5 := body_nz h (B.take (B.length - n))
                have hwn1 : IntKind.i64.wrap ((n : Int) + 1) = ((n + 1 : Nat) : Int) := by rw [wrap64_id (by omega) (by omega)]; omega
                have hzt : zeros (B.drop (B.length - n)) = true := by rw [hzb]; rfl
                have e8 : 8 - n = (8 - (n + 1)) + 1 := by omega
                refine CallP.mono (read_any hm5 ok hk (key5.keep0 hu5) hBt) ?_
                rintro r W6 ⟨u6, m6, e6, rfl, hm6, hmh6, hp6⟩
                have hlt2 := (old_ne hz).1
                have hlt4 := (old_ne hh).1
                have hu6 : Upd noB w W6 := hu5.trans' u6 (fun i hi hlt => by omega)
                have hz6 := u6.get hz5 (by omega)
                have hh6 := u6.get hh5 (by omega)
                cases hx6 : bodyGet h (B.take (B.length - n)) with
                | ok M =>
                  rw [hx6] at hp6
                  obtain ⟨rfl, hown⟩ := hp6
                  have hf2 : findN h B 8 0 = some M := by rw [hf, e8]; exact find_hit c2 hzt hx6
                  rw [hf2]
                  simp [go_sem, g0, g4, hh6, hnp, htm]
                  have hmd : W6.drew.heap[b9]? = some (.cells m6.cells 66 (0, 0)) := hm6
                  have la : (Instr.loadAt 28 (.pointer (some ⟨b9, 0, none⟩))).run Tryz.prog W6.drew = .ok (.agg m6.head.cells) W6.drew :=
                    loadAt_cut (W := W6.drew) (b := b9) (o := 0) (Tryz.isAgg28 _) (Tryz.sizeOf28 _) (by rw [hmd]; exact msg_cut0 m6 _ _)
                  have lb : (Instr.loadAt 34 (.pointer (some ⟨b9, 26, none⟩))).run Tryz.prog W6.drew = .ok (.agg m6.ask.cells) W6.drew :=
                    loadAt_cut (W := W6.drew) (b := b9) (o := 26) (Tryz.isAgg34 _) (Tryz.sizeOf34 _) (by rw [hmd]; exact msg_cut1 m6 _ _)
                  have lc : (Instr.loadAt 39 (.pointer (some ⟨b9, 95, none⟩))).run Tryz.prog W6.drew = .ok (.agg m6.say.cells) W6.drew :=
                    loadAt_cut (W := W6.drew) (b := b9) (o := 95) (Tryz.isAgg39 _) (Tryz.sizeOf39 _) (by rw [hmd]; exact msg_cut2 m6 _ _)
                  refine draw_script [.pure 0, .pure 4, .pure 8, .still [1, 2, 3, 5, 6, 7, 9, 10, 11], .one 12, .one 13, .pure 14] (by kernel_rfl) (by kernel_rfl) (by kernel_rfl) ?_
                  simp [go_sem, Q_load_fix (W := fun _ : Unit => W6.drew) (fun _ => la), Q_load_fix (W := fun _ : Unit => W6.drew) (fun _ => lb), Q_load_fix (W := fun _ : Unit => W6.drew) (fun _ => lc), hz6, g2]
                  refine ⟨(hu6.drew).setB _ _ (fun h => absurd h (by omega)), m6, rfl, ?_⟩
                  refine (MsgOwn.above (S := fun i => i = w.heap.size) (W := W6.drew) (MsgOwn.above (S := noB) hown ((Upd.refl noB W6).drew) (fun i hi => hi.elim)) ((Upd.refl _ _).setB w.heap.size _ (fun _ => rfl)) (fun i hi => by omega)).base (by omega)
                | error e7 =>
                  rw [hx6] at hp6 hnz5
                  have hp6 : e6 = e7 := hp6
                  subst hp6
                  have he6 : ¬ e6 = 0 := fun h => hnz5 (by rw [h])
                  simp [go_sem, he6, g8, hwn1]
                  exact ⟨8 - (n + 1), by omega, n + 1, rfl, by omega, by omega, by simp [go_sem, hwn1], by simp [go_sem, g5], by simp [go_sem, g2], by simp [go_sem, g4], by simp [go_sem, g7], ⟨_, cp, pp, by simp [go_sem, g0], rfl⟩, by omega, by rw [show n + 1 - 1 = n by omega]; exact hzt, by rw [hf, e8]; exact find_next c2 hzt hx6, hu6, hz6, hh6⟩
              · have hx2 : ¬ (x.toNat : Int) = 0 := fun h => hx1 (UInt8.toNat_inj.1 (by show x.toNat = 0; omega))
                simp [go_sem, g8, g7, c1, c2, hwn, ia, ka, hx1, hx2]
                have hfn : findN h B (8 - n) n = none := find_stop _ _ c2 (by rw [hzb]; exact beq_eq_false_iff_ne.2 hx1)
                simp [go_sem, beq_eq_false_iff_ne.2 hx2]
                rw [hf, hfn]
                simp [go_sem, g5, he, g2, hz]
                exact ⟨hu.setB _ _ (fun h => absurd h (by omega)), rfl⟩
            · rw [if_neg c2] at hwn
              simp [go_sem, g8, g7, c1, c2, hwn]
              have hfn : findN h B (8 - n) n = none := find_past _ _ (by omega)
              rw [hf, hfn]
              simp [go_sem, g5, he, g2, hz]
              exact ⟨hu.setB _ _ (fun h => absurd h (by omega)), rfl⟩
          · simp [go_sem, g8, g7, c1]
            have hfn : findN h B (8 - n) n = none := by
              obtain rfl : n = 8 := by omega
              rfl
            rw [hf, hfn]
            simp [go_sem, g5, he, g2, hz]
            exact ⟨hu.setB _ _ (fun h => absurd h (by omega)), rfl⟩
        · rw [if_pos h8]
          have htm : ((l.length : Int).tmod 8 == 0) = false := by
            have : (l.length : Int).tmod 8 = ((l.length % 8 : Nat) : Int) := rfl
            rw [this, beq_eq_false_iff_ne]; omega
          simp [go_sem, hh3, hnp, he, hz3]
          simp [go_sem, htm, he, hz3]
          exact ⟨hu3.setB _ _ (fun h => absurd h (by omega)), rfl⟩
end Go.Proofs.YtinfdomlpbikaaaGreatDoor
namespace Go.Proofs.YtinfdomlpbikaaaGreatDoor
open Go.Eng Go.Lib
set_option linter.unusedSimpArgs false
set_option linter.unusedVariables false
set_option maxRecDepth 100000
variable {w w0 : World}
/-! ### messages compared -/
structure MsgAtR (w : World) (m : MsgV) (M : MsgS) : Prop where
  head : M.head = m.head
  ask : AskAt w m.ask M.ask
  say : SayAt w m.say M.say
theorem MsgAtR.keep {w' : World} {m : MsgV} {M : MsgS} (h : MsgAtR w m M) (u : Upd noB w w') : MsgAtR w' m M := ⟨h.head, h.ask.keep u, h.say.keep u⟩
theorem AskOwn.at {base : Nat} {a : AskV} {A : AskS} (h : AskOwn w base a A) (s : A.small) : AskAt w a A :=
  ⟨h.f, RowAt.of_own h.dia, OwnB.at h.dat, RowAt.of_own h.lok, by have := s.1; omega, by have := s.2.1; omega, by have := s.2.2; omega⟩
theorem SayOwn.at {base : Nat} {a : SayV} {A : SayS} (h : SayOwn w base a A) (s : A.small) : SayAt w a A :=
  ⟨h.f, OwnB.at h.dat, RowAt.of_own h.ent, by have := s.1; omega, by have := s.2; omega⟩
theorem MsgOwn.at {base : Nat} {m : MsgV} {M : MsgS} (h : MsgOwn w base m M) (s1 : M.ask.small) (s2 : M.say.small) : MsgAtR w m M := ⟨h.head, h.ask.at s1, h.say.at s2⟩
set_option maxHeartbeats 4000000 in
theorem same_any {m n : MsgV} {M N : MsgS} (hm : MsgAtR w m M) (hn : MsgAtR w n N) : CallP Tryz.prog 15 #[.agg m.cells, .agg n.cells] w (CmpX w M N) := by
  refine call_den (args := [_, _]) Tryz.func15 rfl rfl (by simp [Tryz.ntmps15]) ?_
  have hM : M = ⟨m.head, M.ask, M.say⟩ := by rw [← hm.head]
  have hN : N = ⟨n.head, N.ask, N.say⟩ := by rw [← hn.head]
  rw [hM, hN]
  have ha0 := hm.ask
  have ha1 := hn.ask
  have hs0 := hm.say
  have hs1 := hn.say
  generalize M.ask = A at *
  generalize N.ask = B at *
  generalize M.say = S at *
  generalize N.say = T at *
  have u0 : Upd noB w ((w.alloc (.cells m.cells 41)).alloc (.cells n.cells 41)) := ((Upd.refl _ _).alloc _).alloc _
  have h0 : ((w.alloc (.cells m.cells 41)).alloc (.cells n.cells 41)).heap[w.heap.size]? = some (.cells m.cells 41 (0, 0)) := by rw [heap_alloc, if_neg (by simp), heap_alloc, if_pos rfl]
  have h1 : ((w.alloc (.cells m.cells 41)).alloc (.cells n.cells 41)).heap[w.heap.size + 1]? = some (.cells n.cells 41 (0, 0)) := by rw [heap_alloc, if_pos (by simp)]
  simp [go_sem]
  generalize (w.alloc (.cells m.cells 41)).alloc (.cells n.cells 41) = W at *
  generalize w.heap.size + 1 = b1 at *
  generalize w.heap.size = b0 at *
  by_cases hh : m.head = n.head
  · have e1 : eqH m.head n.head = true := (eqH_iff _ _).2 hh
    simp [go_sem, e1, h0, h1]
    refine CallP.mono (asks_any (ha0.keep u0) (ha1.keep u0)) ?_
    rintro v W2 ⟨x, rfl, hx, u2⟩
    cases x
    · simp [go_sem]
      exact ⟨false, rfl, by simp; intro _ e; exact absurd (hx.2 e) (by simp), u0.trans u2⟩
    · have h02 := u2.get h0 (by simp [noB])
      have h12 := u2.get h1 (by simp [noB])
      simp [go_sem, h02, h12]
      refine CallP.mono (says_any (hs0.keep (u0.trans u2)) (hs1.keep (u0.trans u2))) ?_
      rintro v W3 ⟨y, rfl, hy, u3⟩
      simp [go_sem]
      exact ⟨y, rfl, by rw [hy]; simp [hh, hx.1 rfl], (u0.trans u2).trans u3⟩
  · have e1 : eqH m.head n.head = false := by
      cases e : eqH m.head n.head
      · rfl
      · exact absurd ((eqH_iff _ _).1 e) hh
    simp [go_sem, e1]
    exact ⟨false, rfl, by simp [hh], u0⟩
end Go.Proofs.YtinfdomlpbikaaaGreatDoor
