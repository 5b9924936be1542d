/-
  What is asked and what is said: their cells (printed by structgen.py).
-/
import Derived.Test.YtinfdomlpbikaaaGreatDoorMsgV
namespace Go.Proofs.YtinfdomlpbikaaaGreatDoor
open Go.Eng
set_option linter.unusedSimpArgs false
set_option linter.unusedVariables false
set_option maxRecDepth 100000
/-- a slice -/
structure SlV where
  p : Option Addr
  n : Nat
  cap : Nat
def zArr (n : Nat) : Arr n := ⟨List.replicate n 0, by simp⟩
def SlV.val (s : SlV) : Value := .slice s.p s.n s.cap
structure AskV where
  dialects : SlV
  guid : Arr 16
  proof : Arr 32
  user : ByteArray
  share : ByteArray
  access : Int
  sharing : Int
  way : Int
  options : Int
  level : Int
  durable : Int
  file : Int
  name : ByteArray
  at_ : Int
  n : Int
  data : SlV
  locks : SlV
  most : Int
  pattern : ByteArray
  after : ByteArray
  cls : Int
  size_ : Int
  on : Bool
def AskV.row (a : AskV) : List Value := [.slice a.dialects.p a.dialects.n a.dialects.cap] ++ (a.guid.1.map u8V ++ (a.proof.1.map u8V ++ ([.string a.user, .string a.share, .int .u32 a.access, .int .u32 a.sharing, .int .u32 a.way, .int .u32 a.options, .int .u8 a.level, .int .u8 a.durable, .int .u64 a.file, .string a.name, .int .u64 a.at_, .int .u32 a.n, .slice a.data.p a.data.n a.data.cap, .slice a.locks.p a.locks.n a.locks.cap, .int .u16 a.most, .string a.pattern, .string a.after, .int .u16 a.cls, .int .u64 a.size_, .bool a.on])))
def AskV.cells (a : AskV) : Array Value := a.row.toArray
theorem AskV.row_len (a : AskV) : a.row.length = 69 := by simp [AskV.row, a.guid.2, a.proof.2]
@[go_sem] theorem AskV.size (a : AskV) : a.cells.size = 69 := by show a.row.length = 69; exact a.row_len
@[go_sem] theorem ask_ne (a : AskV) : (a.cells = #[]) = False := by
  refine eq_false (fun e => ?_)
  have := a.size
  rw [e] at this
  cases this
@[go_sem] theorem ask_one (a : AskV) : oneAll a.cells = true := by
  show (a.row.all fun v => v.oneCell') = true
  simp only [AskV.row, List.all_append, List.all_map]
  simp [Value.oneCell', u8V, SlV.val, Function.comp_def]
@[go_sem] theorem ask_arr (a : AskV) : a.row.toArray = a.cells := (rfl)
@[go_sem high] theorem ask_cut (a : AskV) (t : TypeId) (f : Nat × Nat) : cutIn (some (.cells a.cells t f)) 0 69 = some a.row := by
  rw [cutIn_some, if_pos (by rw [a.size]; omega)]
  show some ((a.row.drop 0).take 69) = some a.row
  rw [List.drop_zero, List.take_of_length_le (by rw [a.row_len]; omega)]
def zeroA : AskV := ⟨⟨none, 0, 0⟩, zArr 16, zArr 32, ByteArray.empty, ByteArray.empty, 0, 0, 0, 0, 0, 0, 0, ByteArray.empty, 0, 0, ⟨none, 0, 0⟩, ⟨none, 0, 0⟩, 0, ByteArray.empty, ByteArray.empty, 0, 0, false⟩
@[go_sem high] theorem ask_zero : (#[.slice none 0 0, .int .u8 0, .int .u8 0, .int .u8 0, .int .u8 0, .int .u8 0, .int .u8 0, .int .u8 0, .int .u8 0, .int .u8 0, .int .u8 0, .int .u8 0, .int .u8 0, .int .u8 0, .int .u8 0, .int .u8 0, .int .u8 0, .int .u8 0, .int .u8 0, .int .u8 0, .int .u8 0, .int .u8 0, .int .u8 0, .int .u8 0, .int .u8 0, .int .u8 0, .int .u8 0, .int .u8 0, .int .u8 0, .int .u8 0, .int .u8 0, .int .u8 0, .int .u8 0, .int .u8 0, .int .u8 0, .int .u8 0, .int .u8 0, .int .u8 0, .int .u8 0, .int .u8 0, .int .u8 0, .int .u8 0, .int .u8 0, .int .u8 0, .int .u8 0, .int .u8 0, .int .u8 0, .int .u8 0, .int .u8 0, .string ⟨#[]⟩, .string ⟨#[]⟩, .int .u32 0, .int .u32 0, .int .u32 0, .int .u32 0, .int .u8 0, .int .u8 0, .int .u64 0, .string ⟨#[]⟩, .int .u64 0, .int .u32 0, .slice none 0 0, .slice none 0 0, .int .u16 0, .string ⟨#[]⟩, .string ⟨#[]⟩, .int .u16 0, .int .u64 0, .bool false] : Array Value) = zeroA.cells := (rfl)
section
variable (a : AskV)
@[go_sem] theorem askq0 : a.cells[0]? = some (.slice a.dialects.p a.dialects.n a.dialects.cap) := by
  rw [show a.cells = a.row.toArray from rfl, List.getElem?_toArray]
  simp [AskV.row, List.getElem?_append]
@[go_sem] theorem askg0 (hp : 0 < a.cells.size) : a.cells[0] = .slice a.dialects.p a.dialects.n a.dialects.cap := Option.some.inj ((Array.getElem?_eq_getElem hp).symm.trans (askq0 a))
@[go_sem] theorem asks0 (p : Option Addr) (n c : Nat) : a.cells.setIfInBounds 0 (.slice p n c) = { a with dialects := ⟨p, n, c⟩ }.cells := by
  apply Array.toList_inj.1
  rw [Array.toList_setIfInBounds]
  show a.row.set 0 _ = _
  simp [AskV.cells, AskV.row, List.set_append]
@[go_sem] theorem askq49 : a.cells[49]? = some (.string a.user) := by
  rw [show a.cells = a.row.toArray from rfl, List.getElem?_toArray]
  simp [AskV.row, List.getElem?_append, a.guid.2, a.proof.2]
@[go_sem] theorem askg49 (hp : 49 < a.cells.size) : a.cells[49] = .string a.user := Option.some.inj ((Array.getElem?_eq_getElem hp).symm.trans (askq49 a))
@[go_sem] theorem asks49 (z : ByteArray) : a.cells.setIfInBounds 49 (.string z) = { a with user := z }.cells := by
  apply Array.toList_inj.1
  rw [Array.toList_setIfInBounds]
  show a.row.set 49 _ = _
  simp [AskV.cells, AskV.row, List.set_append, a.guid.2, a.proof.2]
@[go_sem] theorem askq50 : a.cells[50]? = some (.string a.share) := by
  rw [show a.cells = a.row.toArray from rfl, List.getElem?_toArray]
  simp [AskV.row, List.getElem?_append, a.guid.2, a.proof.2]
@[go_sem] theorem askg50 (hp : 50 < a.cells.size) : a.cells[50] = .string a.share := Option.some.inj ((Array.getElem?_eq_getElem hp).symm.trans (askq50 a))
@[go_sem] theorem asks50 (z : ByteArray) : a.cells.setIfInBounds 50 (.string z) = { a with share := z }.cells := by
  apply Array.toList_inj.1
  rw [Array.toList_setIfInBounds]
  show a.row.set 50 _ = _
  simp [AskV.cells, AskV.row, List.set_append, a.guid.2, a.proof.2]
@[go_sem] theorem askq51 : a.cells[51]? = some (.int .u32 a.access) := by
  rw [show a.cells = a.row.toArray from rfl, List.getElem?_toArray]
  simp [AskV.row, List.getElem?_append, a.guid.2, a.proof.2]
@[go_sem] theorem askg51 (hp : 51 < a.cells.size) : a.cells[51] = .int .u32 a.access := Option.some.inj ((Array.getElem?_eq_getElem hp).symm.trans (askq51 a))
@[go_sem] theorem asks51 (z : Int) : a.cells.setIfInBounds 51 (.int .u32 z) = { a with access := z }.cells := by
  apply Array.toList_inj.1
  rw [Array.toList_setIfInBounds]
  show a.row.set 51 _ = _
  simp [AskV.cells, AskV.row, List.set_append, a.guid.2, a.proof.2]
@[go_sem] theorem askq52 : a.cells[52]? = some (.int .u32 a.sharing) := by
  rw [show a.cells = a.row.toArray from rfl, List.getElem?_toArray]
  simp [AskV.row, List.getElem?_append, a.guid.2, a.proof.2]
@[go_sem] theorem askg52 (hp : 52 < a.cells.size) : a.cells[52] = .int .u32 a.sharing := Option.some.inj ((Array.getElem?_eq_getElem hp).symm.trans (askq52 a))
@[go_sem] theorem asks52 (z : Int) : a.cells.setIfInBounds 52 (.int .u32 z) = { a with sharing := z }.cells := by
  apply Array.toList_inj.1
  rw [Array.toList_setIfInBounds]
  show a.row.set 52 _ = _
  simp [AskV.cells, AskV.row, List.set_append, a.guid.2, a.proof.2]
@[go_sem] theorem askq53 : a.cells[53]? = some (.int .u32 a.way) := by
  rw [show a.cells = a.row.toArray from rfl, List.getElem?_toArray]
  simp [AskV.row, List.getElem?_append, a.guid.2, a.proof.2]
@[go_sem] theorem askg53 (hp : 53 < a.cells.size) : a.cells[53] = .int .u32 a.way := Option.some.inj ((Array.getElem?_eq_getElem hp).symm.trans (askq53 a))
@[go_sem] theorem asks53 (z : Int) : a.cells.setIfInBounds 53 (.int .u32 z) = { a with way := z }.cells := by
  apply Array.toList_inj.1
  rw [Array.toList_setIfInBounds]
  show a.row.set 53 _ = _
  simp [AskV.cells, AskV.row, List.set_append, a.guid.2, a.proof.2]
@[go_sem] theorem askq54 : a.cells[54]? = some (.int .u32 a.options) := by
  rw [show a.cells = a.row.toArray from rfl, List.getElem?_toArray]
  simp [AskV.row, List.getElem?_append, a.guid.2, a.proof.2]
@[go_sem] theorem askg54 (hp : 54 < a.cells.size) : a.cells[54] = .int .u32 a.options := Option.some.inj ((Array.getElem?_eq_getElem hp).symm.trans (askq54 a))
@[go_sem] theorem asks54 (z : Int) : a.cells.setIfInBounds 54 (.int .u32 z) = { a with options := z }.cells := by
  apply Array.toList_inj.1
  rw [Array.toList_setIfInBounds]
  show a.row.set 54 _ = _
  simp [AskV.cells, AskV.row, List.set_append, a.guid.2, a.proof.2]
@[go_sem] theorem askq55 : a.cells[55]? = some (.int .u8 a.level) := by
  rw [show a.cells = a.row.toArray from rfl, List.getElem?_toArray]
  simp [AskV.row, List.getElem?_append, a.guid.2, a.proof.2]
@[go_sem] theorem askg55 (hp : 55 < a.cells.size) : a.cells[55] = .int .u8 a.level := Option.some.inj ((Array.getElem?_eq_getElem hp).symm.trans (askq55 a))
@[go_sem] theorem asks55 (z : Int) : a.cells.setIfInBounds 55 (.int .u8 z) = { a with level := z }.cells := by
  apply Array.toList_inj.1
  rw [Array.toList_setIfInBounds]
  show a.row.set 55 _ = _
  simp [AskV.cells, AskV.row, List.set_append, a.guid.2, a.proof.2]
@[go_sem] theorem askq56 : a.cells[56]? = some (.int .u8 a.durable) := by
  rw [show a.cells = a.row.toArray from rfl, List.getElem?_toArray]
  simp [AskV.row, List.getElem?_append, a.guid.2, a.proof.2]
@[go_sem] theorem askg56 (hp : 56 < a.cells.size) : a.cells[56] = .int .u8 a.durable := Option.some.inj ((Array.getElem?_eq_getElem hp).symm.trans (askq56 a))
@[go_sem] theorem asks56 (z : Int) : a.cells.setIfInBounds 56 (.int .u8 z) = { a with durable := z }.cells := by
  apply Array.toList_inj.1
  rw [Array.toList_setIfInBounds]
  show a.row.set 56 _ = _
  simp [AskV.cells, AskV.row, List.set_append, a.guid.2, a.proof.2]
@[go_sem] theorem askq57 : a.cells[57]? = some (.int .u64 a.file) := by
  rw [show a.cells = a.row.toArray from rfl, List.getElem?_toArray]
  simp [AskV.row, List.getElem?_append, a.guid.2, a.proof.2]
@[go_sem] theorem askg57 (hp : 57 < a.cells.size) : a.cells[57] = .int .u64 a.file := Option.some.inj ((Array.getElem?_eq_getElem hp).symm.trans (askq57 a))
@[go_sem] theorem asks57 (z : Int) : a.cells.setIfInBounds 57 (.int .u64 z) = { a with file := z }.cells := by
  apply Array.toList_inj.1
  rw [Array.toList_setIfInBounds]
  show a.row.set 57 _ = _
  simp [AskV.cells, AskV.row, List.set_append, a.guid.2, a.proof.2]
@[go_sem] theorem askq58 : a.cells[58]? = some (.string a.name) := by
  rw [show a.cells = a.row.toArray from rfl, List.getElem?_toArray]
  simp [AskV.row, List.getElem?_append, a.guid.2, a.proof.2]
@[go_sem] theorem askg58 (hp : 58 < a.cells.size) : a.cells[58] = .string a.name := Option.some.inj ((Array.getElem?_eq_getElem hp).symm.trans (askq58 a))
@[go_sem] theorem asks58 (z : ByteArray) : a.cells.setIfInBounds 58 (.string z) = { a with name := z }.cells := by
  apply Array.toList_inj.1
  rw [Array.toList_setIfInBounds]
  show a.row.set 58 _ = _
  simp [AskV.cells, AskV.row, List.set_append, a.guid.2, a.proof.2]
@[go_sem] theorem askq59 : a.cells[59]? = some (.int .u64 a.at_) := by
  rw [show a.cells = a.row.toArray from rfl, List.getElem?_toArray]
  simp [AskV.row, List.getElem?_append, a.guid.2, a.proof.2]
@[go_sem] theorem askg59 (hp : 59 < a.cells.size) : a.cells[59] = .int .u64 a.at_ := Option.some.inj ((Array.getElem?_eq_getElem hp).symm.trans (askq59 a))
@[go_sem] theorem asks59 (z : Int) : a.cells.setIfInBounds 59 (.int .u64 z) = { a with at_ := z }.cells := by
  apply Array.toList_inj.1
  rw [Array.toList_setIfInBounds]
  show a.row.set 59 _ = _
  simp [AskV.cells, AskV.row, List.set_append, a.guid.2, a.proof.2]
@[go_sem] theorem askq60 : a.cells[60]? = some (.int .u32 a.n) := by
  rw [show a.cells = a.row.toArray from rfl, List.getElem?_toArray]
  simp [AskV.row, List.getElem?_append, a.guid.2, a.proof.2]
@[go_sem] theorem askg60 (hp : 60 < a.cells.size) : a.cells[60] = .int .u32 a.n := Option.some.inj ((Array.getElem?_eq_getElem hp).symm.trans (askq60 a))
@[go_sem] theorem asks60 (z : Int) : a.cells.setIfInBounds 60 (.int .u32 z) = { a with n := z }.cells := by
  apply Array.toList_inj.1
  rw [Array.toList_setIfInBounds]
  show a.row.set 60 _ = _
  simp [AskV.cells, AskV.row, List.set_append, a.guid.2, a.proof.2]
@[go_sem] theorem askq61 : a.cells[61]? = some (.slice a.data.p a.data.n a.data.cap) := by
  rw [show a.cells = a.row.toArray from rfl, List.getElem?_toArray]
  simp [AskV.row, List.getElem?_append, a.guid.2, a.proof.2]
@[go_sem] theorem askg61 (hp : 61 < a.cells.size) : a.cells[61] = .slice a.data.p a.data.n a.data.cap := Option.some.inj ((Array.getElem?_eq_getElem hp).symm.trans (askq61 a))
@[go_sem] theorem asks61 (p : Option Addr) (n c : Nat) : a.cells.setIfInBounds 61 (.slice p n c) = { a with data := ⟨p, n, c⟩ }.cells := by
  apply Array.toList_inj.1
  rw [Array.toList_setIfInBounds]
  show a.row.set 61 _ = _
  simp [AskV.cells, AskV.row, List.set_append, a.guid.2, a.proof.2]
@[go_sem] theorem askq62 : a.cells[62]? = some (.slice a.locks.p a.locks.n a.locks.cap) := by
  rw [show a.cells = a.row.toArray from rfl, List.getElem?_toArray]
  simp [AskV.row, List.getElem?_append, a.guid.2, a.proof.2]
@[go_sem] theorem askg62 (hp : 62 < a.cells.size) : a.cells[62] = .slice a.locks.p a.locks.n a.locks.cap := Option.some.inj ((Array.getElem?_eq_getElem hp).symm.trans (askq62 a))
@[go_sem] theorem asks62 (p : Option Addr) (n c : Nat) : a.cells.setIfInBounds 62 (.slice p n c) = { a with locks := ⟨p, n, c⟩ }.cells := by
  apply Array.toList_inj.1
  rw [Array.toList_setIfInBounds]
  show a.row.set 62 _ = _
  simp [AskV.cells, AskV.row, List.set_append, a.guid.2, a.proof.2]
@[go_sem] theorem askq63 : a.cells[63]? = some (.int .u16 a.most) := by
  rw [show a.cells = a.row.toArray from rfl, List.getElem?_toArray]
  simp [AskV.row, List.getElem?_append, a.guid.2, a.proof.2]
@[go_sem] theorem askg63 (hp : 63 < a.cells.size) : a.cells[63] = .int .u16 a.most := Option.some.inj ((Array.getElem?_eq_getElem hp).symm.trans (askq63 a))
@[go_sem] theorem asks63 (z : Int) : a.cells.setIfInBounds 63 (.int .u16 z) = { a with most := z }.cells := by
  apply Array.toList_inj.1
  rw [Array.toList_setIfInBounds]
  show a.row.set 63 _ = _
  simp [AskV.cells, AskV.row, List.set_append, a.guid.2, a.proof.2]
@[go_sem] theorem askq64 : a.cells[64]? = some (.string a.pattern) := by
  rw [show a.cells = a.row.toArray from rfl, List.getElem?_toArray]
  simp [AskV.row, List.getElem?_append, a.guid.2, a.proof.2]
@[go_sem] theorem askg64 (hp : 64 < a.cells.size) : a.cells[64] = .string a.pattern := Option.some.inj ((Array.getElem?_eq_getElem hp).symm.trans (askq64 a))
@[go_sem] theorem asks64 (z : ByteArray) : a.cells.setIfInBounds 64 (.string z) = { a with pattern := z }.cells := by
  apply Array.toList_inj.1
  rw [Array.toList_setIfInBounds]
  show a.row.set 64 _ = _
  simp [AskV.cells, AskV.row, List.set_append, a.guid.2, a.proof.2]
@[go_sem] theorem askq65 : a.cells[65]? = some (.string a.after) := by
  rw [show a.cells = a.row.toArray from rfl, List.getElem?_toArray]
  simp [AskV.row, List.getElem?_append, a.guid.2, a.proof.2]
@[go_sem] theorem askg65 (hp : 65 < a.cells.size) : a.cells[65] = .string a.after := Option.some.inj ((Array.getElem?_eq_getElem hp).symm.trans (askq65 a))
@[go_sem] theorem asks65 (z : ByteArray) : a.cells.setIfInBounds 65 (.string z) = { a with after := z }.cells := by
  apply Array.toList_inj.1
  rw [Array.toList_setIfInBounds]
  show a.row.set 65 _ = _
  simp [AskV.cells, AskV.row, List.set_append, a.guid.2, a.proof.2]
@[go_sem] theorem askq66 : a.cells[66]? = some (.int .u16 a.cls) := by
  rw [show a.cells = a.row.toArray from rfl, List.getElem?_toArray]
  simp [AskV.row, List.getElem?_append, a.guid.2, a.proof.2]
@[go_sem] theorem askg66 (hp : 66 < a.cells.size) : a.cells[66] = .int .u16 a.cls := Option.some.inj ((Array.getElem?_eq_getElem hp).symm.trans (askq66 a))
@[go_sem] theorem asks66 (z : Int) : a.cells.setIfInBounds 66 (.int .u16 z) = { a with cls := z }.cells := by
  apply Array.toList_inj.1
  rw [Array.toList_setIfInBounds]
  show a.row.set 66 _ = _
  simp [AskV.cells, AskV.row, List.set_append, a.guid.2, a.proof.2]
@[go_sem] theorem askq67 : a.cells[67]? = some (.int .u64 a.size_) := by
  rw [show a.cells = a.row.toArray from rfl, List.getElem?_toArray]
  simp [AskV.row, List.getElem?_append, a.guid.2, a.proof.2]
@[go_sem] theorem askg67 (hp : 67 < a.cells.size) : a.cells[67] = .int .u64 a.size_ := Option.some.inj ((Array.getElem?_eq_getElem hp).symm.trans (askq67 a))
@[go_sem] theorem asks67 (z : Int) : a.cells.setIfInBounds 67 (.int .u64 z) = { a with size_ := z }.cells := by
  apply Array.toList_inj.1
  rw [Array.toList_setIfInBounds]
  show a.row.set 67 _ = _
  simp [AskV.cells, AskV.row, List.set_append, a.guid.2, a.proof.2]
@[go_sem] theorem askq68 : a.cells[68]? = some (.bool a.on) := by
  rw [show a.cells = a.row.toArray from rfl, List.getElem?_toArray]
  simp [AskV.row, List.getElem?_append, a.guid.2, a.proof.2]
@[go_sem] theorem askg68 (hp : 68 < a.cells.size) : a.cells[68] = .bool a.on := Option.some.inj ((Array.getElem?_eq_getElem hp).symm.trans (askq68 a))
@[go_sem] theorem asks68 (z : Bool) : a.cells.setIfInBounds 68 (.bool z) = { a with on := z }.cells := by
  apply Array.toList_inj.1
  rw [Array.toList_setIfInBounds]
  show a.row.set 68 _ = _
  simp [AskV.cells, AskV.row, List.set_append, a.guid.2, a.proof.2]
end

structure SayV where
  dialect : Int
  size_ : Int
  challenge : Arr 8
  level : Int
  durable : Int
  made : Int
  file : Int
  kind : Int
  data : SlV
  n : Int
  entries : SlV
  more : Bool
  gone : Bool
def SayV.row (a : SayV) : List Value := [.int .u16 a.dialect, .int .u64 a.size_] ++ (a.challenge.1.map u8V ++ ([.int .u8 a.level, .int .u8 a.durable, .int .u16 a.made, .int .u64 a.file, .int .u8 a.kind, .slice a.data.p a.data.n a.data.cap, .int .u32 a.n, .slice a.entries.p a.entries.n a.entries.cap, .bool a.more, .bool a.gone]))
def SayV.cells (a : SayV) : Array Value := a.row.toArray
theorem SayV.row_len (a : SayV) : a.row.length = 20 := by simp [SayV.row, a.challenge.2]
@[go_sem] theorem SayV.size (a : SayV) : a.cells.size = 20 := by show a.row.length = 20; exact a.row_len
@[go_sem] theorem say_ne (a : SayV) : (a.cells = #[]) = False := by
  refine eq_false (fun e => ?_)
  have := a.size
  rw [e] at this
  cases this
@[go_sem] theorem say_one (a : SayV) : oneAll a.cells = true := by
  show (a.row.all fun v => v.oneCell') = true
  simp only [SayV.row, List.all_append, List.all_map]
  simp [Value.oneCell', u8V, SlV.val, Function.comp_def]
@[go_sem] theorem say_arr (a : SayV) : a.row.toArray = a.cells := (rfl)
@[go_sem high] theorem say_cut (a : SayV) (t : TypeId) (f : Nat × Nat) : cutIn (some (.cells a.cells t f)) 0 20 = some a.row := by
  rw [cutIn_some, if_pos (by rw [a.size]; omega)]
  show some ((a.row.drop 0).take 20) = some a.row
  rw [List.drop_zero, List.take_of_length_le (by rw [a.row_len]; omega)]
def zeroS : SayV := ⟨0, 0, zArr 8, 0, 0, 0, 0, 0, ⟨none, 0, 0⟩, 0, ⟨none, 0, 0⟩, false, false⟩
@[go_sem high] theorem say_zero : (#[.int .u16 0, .int .u64 0, .int .u8 0, .int .u8 0, .int .u8 0, .int .u8 0, .int .u8 0, .int .u8 0, .int .u8 0, .int .u8 0, .int .u8 0, .int .u8 0, .int .u16 0, .int .u64 0, .int .u8 0, .slice none 0 0, .int .u32 0, .slice none 0 0, .bool false, .bool false] : Array Value) = zeroS.cells := (rfl)
section
variable (a : SayV)
@[go_sem] theorem sayq0 : a.cells[0]? = some (.int .u16 a.dialect) := by
  rw [show a.cells = a.row.toArray from rfl, List.getElem?_toArray]
  simp [SayV.row, List.getElem?_append]
@[go_sem] theorem sayg0 (hp : 0 < a.cells.size) : a.cells[0] = .int .u16 a.dialect := Option.some.inj ((Array.getElem?_eq_getElem hp).symm.trans (sayq0 a))
@[go_sem] theorem says0 (z : Int) : a.cells.setIfInBounds 0 (.int .u16 z) = { a with dialect := z }.cells := by
  apply Array.toList_inj.1
  rw [Array.toList_setIfInBounds]
  show a.row.set 0 _ = _
  simp [SayV.cells, SayV.row, List.set_append]
@[go_sem] theorem sayq1 : a.cells[1]? = some (.int .u64 a.size_) := by
  rw [show a.cells = a.row.toArray from rfl, List.getElem?_toArray]
  simp [SayV.row, List.getElem?_append]
@[go_sem] theorem sayg1 (hp : 1 < a.cells.size) : a.cells[1] = .int .u64 a.size_ := Option.some.inj ((Array.getElem?_eq_getElem hp).symm.trans (sayq1 a))
@[go_sem] theorem says1 (z : Int) : a.cells.setIfInBounds 1 (.int .u64 z) = { a with size_ := z }.cells := by
  apply Array.toList_inj.1
  rw [Array.toList_setIfInBounds]
  show a.row.set 1 _ = _
  simp [SayV.cells, SayV.row, List.set_append]
@[go_sem] theorem sayq10 : a.cells[10]? = some (.int .u8 a.level) := by
  rw [show a.cells = a.row.toArray from rfl, List.getElem?_toArray]
  simp [SayV.row, List.getElem?_append, a.challenge.2]
@[go_sem] theorem sayg10 (hp : 10 < a.cells.size) : a.cells[10] = .int .u8 a.level := Option.some.inj ((Array.getElem?_eq_getElem hp).symm.trans (sayq10 a))
@[go_sem] theorem says10 (z : Int) : a.cells.setIfInBounds 10 (.int .u8 z) = { a with level := z }.cells := by
  apply Array.toList_inj.1
  rw [Array.toList_setIfInBounds]
  show a.row.set 10 _ = _
  simp [SayV.cells, SayV.row, List.set_append, a.challenge.2]
@[go_sem] theorem sayq11 : a.cells[11]? = some (.int .u8 a.durable) := by
  rw [show a.cells = a.row.toArray from rfl, List.getElem?_toArray]
  simp [SayV.row, List.getElem?_append, a.challenge.2]
@[go_sem] theorem sayg11 (hp : 11 < a.cells.size) : a.cells[11] = .int .u8 a.durable := Option.some.inj ((Array.getElem?_eq_getElem hp).symm.trans (sayq11 a))
@[go_sem] theorem says11 (z : Int) : a.cells.setIfInBounds 11 (.int .u8 z) = { a with durable := z }.cells := by
  apply Array.toList_inj.1
  rw [Array.toList_setIfInBounds]
  show a.row.set 11 _ = _
  simp [SayV.cells, SayV.row, List.set_append, a.challenge.2]
@[go_sem] theorem sayq12 : a.cells[12]? = some (.int .u16 a.made) := by
  rw [show a.cells = a.row.toArray from rfl, List.getElem?_toArray]
  simp [SayV.row, List.getElem?_append, a.challenge.2]
@[go_sem] theorem sayg12 (hp : 12 < a.cells.size) : a.cells[12] = .int .u16 a.made := Option.some.inj ((Array.getElem?_eq_getElem hp).symm.trans (sayq12 a))
@[go_sem] theorem says12 (z : Int) : a.cells.setIfInBounds 12 (.int .u16 z) = { a with made := z }.cells := by
  apply Array.toList_inj.1
  rw [Array.toList_setIfInBounds]
  show a.row.set 12 _ = _
  simp [SayV.cells, SayV.row, List.set_append, a.challenge.2]
@[go_sem] theorem sayq13 : a.cells[13]? = some (.int .u64 a.file) := by
  rw [show a.cells = a.row.toArray from rfl, List.getElem?_toArray]
  simp [SayV.row, List.getElem?_append, a.challenge.2]
@[go_sem] theorem sayg13 (hp : 13 < a.cells.size) : a.cells[13] = .int .u64 a.file := Option.some.inj ((Array.getElem?_eq_getElem hp).symm.trans (sayq13 a))
@[go_sem] theorem says13 (z : Int) : a.cells.setIfInBounds 13 (.int .u64 z) = { a with file := z }.cells := by
  apply Array.toList_inj.1
  rw [Array.toList_setIfInBounds]
  show a.row.set 13 _ = _
  simp [SayV.cells, SayV.row, List.set_append, a.challenge.2]
@[go_sem] theorem sayq14 : a.cells[14]? = some (.int .u8 a.kind) := by
  rw [show a.cells = a.row.toArray from rfl, List.getElem?_toArray]
  simp [SayV.row, List.getElem?_append, a.challenge.2]
@[go_sem] theorem sayg14 (hp : 14 < a.cells.size) : a.cells[14] = .int .u8 a.kind := Option.some.inj ((Array.getElem?_eq_getElem hp).symm.trans (sayq14 a))
@[go_sem] theorem says14 (z : Int) : a.cells.setIfInBounds 14 (.int .u8 z) = { a with kind := z }.cells := by
  apply Array.toList_inj.1
  rw [Array.toList_setIfInBounds]
  show a.row.set 14 _ = _
  simp [SayV.cells, SayV.row, List.set_append, a.challenge.2]
@[go_sem] theorem sayq15 : a.cells[15]? = some (.slice a.data.p a.data.n a.data.cap) := by
  rw [show a.cells = a.row.toArray from rfl, List.getElem?_toArray]
  simp [SayV.row, List.getElem?_append, a.challenge.2]
@[go_sem] theorem sayg15 (hp : 15 < a.cells.size) : a.cells[15] = .slice a.data.p a.data.n a.data.cap := Option.some.inj ((Array.getElem?_eq_getElem hp).symm.trans (sayq15 a))
@[go_sem] theorem says15 (p : Option Addr) (n c : Nat) : a.cells.setIfInBounds 15 (.slice p n c) = { a with data := ⟨p, n, c⟩ }.cells := by
  apply Array.toList_inj.1
  rw [Array.toList_setIfInBounds]
  show a.row.set 15 _ = _
  simp [SayV.cells, SayV.row, List.set_append, a.challenge.2]
@[go_sem] theorem sayq16 : a.cells[16]? = some (.int .u32 a.n) := by
  rw [show a.cells = a.row.toArray from rfl, List.getElem?_toArray]
  simp [SayV.row, List.getElem?_append, a.challenge.2]
@[go_sem] theorem sayg16 (hp : 16 < a.cells.size) : a.cells[16] = .int .u32 a.n := Option.some.inj ((Array.getElem?_eq_getElem hp).symm.trans (sayq16 a))
@[go_sem] theorem says16 (z : Int) : a.cells.setIfInBounds 16 (.int .u32 z) = { a with n := z }.cells := by
  apply Array.toList_inj.1
  rw [Array.toList_setIfInBounds]
  show a.row.set 16 _ = _
  simp [SayV.cells, SayV.row, List.set_append, a.challenge.2]
@[go_sem] theorem sayq17 : a.cells[17]? = some (.slice a.entries.p a.entries.n a.entries.cap) := by
  rw [show a.cells = a.row.toArray from rfl, List.getElem?_toArray]
  simp [SayV.row, List.getElem?_append, a.challenge.2]
@[go_sem] theorem sayg17 (hp : 17 < a.cells.size) : a.cells[17] = .slice a.entries.p a.entries.n a.entries.cap := Option.some.inj ((Array.getElem?_eq_getElem hp).symm.trans (sayq17 a))
@[go_sem] theorem says17 (p : Option Addr) (n c : Nat) : a.cells.setIfInBounds 17 (.slice p n c) = { a with entries := ⟨p, n, c⟩ }.cells := by
  apply Array.toList_inj.1
  rw [Array.toList_setIfInBounds]
  show a.row.set 17 _ = _
  simp [SayV.cells, SayV.row, List.set_append, a.challenge.2]
@[go_sem] theorem sayq18 : a.cells[18]? = some (.bool a.more) := by
  rw [show a.cells = a.row.toArray from rfl, List.getElem?_toArray]
  simp [SayV.row, List.getElem?_append, a.challenge.2]
@[go_sem] theorem sayg18 (hp : 18 < a.cells.size) : a.cells[18] = .bool a.more := Option.some.inj ((Array.getElem?_eq_getElem hp).symm.trans (sayq18 a))
@[go_sem] theorem says18 (z : Bool) : a.cells.setIfInBounds 18 (.bool z) = { a with more := z }.cells := by
  apply Array.toList_inj.1
  rw [Array.toList_setIfInBounds]
  show a.row.set 18 _ = _
  simp [SayV.cells, SayV.row, List.set_append, a.challenge.2]
@[go_sem] theorem sayq19 : a.cells[19]? = some (.bool a.gone) := by
  rw [show a.cells = a.row.toArray from rfl, List.getElem?_toArray]
  simp [SayV.row, List.getElem?_append, a.challenge.2]
@[go_sem] theorem sayg19 (hp : 19 < a.cells.size) : a.cells[19] = .bool a.gone := Option.some.inj ((Array.getElem?_eq_getElem hp).symm.trans (sayq19 a))
@[go_sem] theorem says19 (z : Bool) : a.cells.setIfInBounds 19 (.bool z) = { a with gone := z }.cells := by
  apply Array.toList_inj.1
  rw [Array.toList_setIfInBounds]
  show a.row.set 19 _ = _
  simp [SayV.cells, SayV.row, List.set_append, a.challenge.2]
end

structure MsgV where
  head : HeadV
  ask : AskV
  say : SayV
def MsgV.row (m : MsgV) : List Value := m.head.row ++ (m.ask.row ++ m.say.row)
def MsgV.cells (m : MsgV) : Array Value := m.row.toArray
theorem head_row_len (h : HeadV) : h.row.length = 26 := by simp [HeadV.row, h.sign.2]
theorem MsgV.row_len (m : MsgV) : m.row.length = 115 := by simp [MsgV.row, head_row_len, AskV.row_len, SayV.row_len]
@[go_sem] theorem MsgV.size (m : MsgV) : m.cells.size = 115 := by show m.row.length = 115; exact m.row_len
@[go_sem] theorem msg_ne (m : MsgV) : (m.cells = #[]) = False := by
  refine eq_false (fun e => ?_)
  have := m.size
  rw [e] at this
  cases this
@[go_sem] theorem msg_one (m : MsgV) : oneAll m.cells = true := by
  have h1 := head_one m.head
  have h2 := ask_one m.ask
  have h3 := say_one m.say
  have e1 : m.head.row.all (fun v => v.oneCell') = true := h1
  have e2 : m.ask.row.all (fun v => v.oneCell') = true := h2
  have e3 : m.say.row.all (fun v => v.oneCell') = true := h3
  show (m.row.all fun v => v.oneCell') = true
  simp only [MsgV.row, List.all_append, e1, e2, e3]
  rfl
@[go_sem] theorem msg_arr (m : MsgV) : m.row.toArray = m.cells := (rfl)
@[go_sem high] theorem msg_cut (m : MsgV) (t : TypeId) (f : Nat × Nat) : cutIn (some (.cells m.cells t f)) 0 115 = some m.row := by
  rw [cutIn_some, if_pos (by rw [m.size]; omega)]
  show some ((m.row.drop 0).take 115) = some m.row
  rw [List.drop_zero, List.take_of_length_le (by rw [m.row_len]; omega)]
@[go_sem high] theorem msg_cut0 (m : MsgV) (t : TypeId) (f : Nat × Nat) : cutIn (some (.cells m.cells t f)) 0 26 = some m.head.row := by
  rw [cutIn_some, if_pos (by rw [m.size]; omega)]
  show some ((m.row.drop 0).take 26) = some m.head.row
  rw [List.drop_zero, MsgV.row, List.take_left' (head_row_len _)]
@[go_sem high] theorem msg_cut1 (m : MsgV) (t : TypeId) (f : Nat × Nat) : cutIn (some (.cells m.cells t f)) 26 69 = some m.ask.row := by
  rw [cutIn_some, if_pos (by rw [m.size]; omega)]
  show some ((m.row.drop 26).take 69) = some m.ask.row
  rw [MsgV.row, List.drop_left' (head_row_len _), List.take_left' (AskV.row_len _)]
@[go_sem high] theorem msg_cut2 (m : MsgV) (t : TypeId) (f : Nat × Nat) : cutIn (some (.cells m.cells t f)) 95 20 = some m.say.row := by
  rw [cutIn_some, if_pos (by rw [m.size]; omega)]
  show some ((m.row.drop 95).take 20) = some m.say.row
  have e : (m.head.row ++ m.ask.row).length = 95 := by rw [List.length_append, head_row_len, AskV.row_len]
  rw [MsgV.row, ← List.append_assoc, List.drop_left' e, List.take_of_length_le (by rw [SayV.row_len]; omega)]
def zeroM : MsgV := ⟨zeroH, zeroA, zeroS⟩
@[go_sem high] theorem msg_zero : (#[.int .u16 0, .int .u32 0, .int .u16 0, .int .u16 0, .int .u32 0, .int .u32 0, .int .u64 0, .int .u64 0, .int .u32 0, .int .u64 0, .int .u8 0, .int .u8 0, .int .u8 0, .int .u8 0, .int .u8 0, .int .u8 0, .int .u8 0, .int .u8 0, .int .u8 0, .int .u8 0, .int .u8 0, .int .u8 0, .int .u8 0, .int .u8 0, .int .u8 0, .int .u8 0, .slice none 0 0, .int .u8 0, .int .u8 0, .int .u8 0, .int .u8 0, .int .u8 0, .int .u8 0, .int .u8 0, .int .u8 0, .int .u8 0, .int .u8 0, .int .u8 0, .int .u8 0, .int .u8 0, .int .u8 0, .int .u8 0, .int .u8 0, .int .u8 0, .int .u8 0, .int .u8 0, .int .u8 0, .int .u8 0, .int .u8 0, .int .u8 0, .int .u8 0, .int .u8 0, .int .u8 0, .int .u8 0, .int .u8 0, .int .u8 0, .int .u8 0, .int .u8 0, .int .u8 0, .int .u8 0, .int .u8 0, .int .u8 0, .int .u8 0, .int .u8 0, .int .u8 0, .int .u8 0, .int .u8 0, .int .u8 0, .int .u8 0, .int .u8 0, .int .u8 0, .int .u8 0, .int .u8 0, .int .u8 0, .int .u8 0, .string ⟨#[]⟩, .string ⟨#[]⟩, .int .u32 0, .int .u32 0, .int .u32 0, .int .u32 0, .int .u8 0, .int .u8 0, .int .u64 0, .string ⟨#[]⟩, .int .u64 0, .int .u32 0, .slice none 0 0, .slice none 0 0, .int .u16 0, .string ⟨#[]⟩, .string ⟨#[]⟩, .int .u16 0, .int .u64 0, .bool false, .int .u16 0, .int .u64 0, .int .u8 0, .int .u8 0, .int .u8 0, .int .u8 0, .int .u8 0, .int .u8 0, .int .u8 0, .int .u8 0, .int .u8 0, .int .u8 0, .int .u16 0, .int .u64 0, .int .u8 0, .slice none 0 0, .int .u32 0, .slice none 0 0, .bool false, .bool false] : Array Value) = zeroM.cells := (rfl)
section
variable (m : MsgV)
@[go_sem] theorem msgq0 : m.cells[0]? = some (.int .u16 m.head.charge) := by
  rw [show m.cells = m.row.toArray from rfl, List.getElem?_toArray, MsgV.row, List.getElem?_append_left (by rw [head_row_len]; omega)]
  have h := hd0 m.head
  rw [show m.head.cells = m.head.row.toArray from rfl, List.getElem?_toArray] at h
  exact h
@[go_sem] theorem msgg0 (hp : 0 < m.cells.size) : m.cells[0] = .int .u16 m.head.charge := Option.some.inj ((Array.getElem?_eq_getElem hp).symm.trans (msgq0 m))
@[go_sem] theorem msgq1 : m.cells[1]? = some (.int .u32 m.head.status) := by
  rw [show m.cells = m.row.toArray from rfl, List.getElem?_toArray, MsgV.row, List.getElem?_append_left (by rw [head_row_len]; omega)]
  have h := hd1 m.head
  rw [show m.head.cells = m.head.row.toArray from rfl, List.getElem?_toArray] at h
  exact h
@[go_sem] theorem msgg1 (hp : 1 < m.cells.size) : m.cells[1] = .int .u32 m.head.status := Option.some.inj ((Array.getElem?_eq_getElem hp).symm.trans (msgq1 m))
@[go_sem] theorem msgq2 : m.cells[2]? = some (.int .u16 m.head.command) := by
  rw [show m.cells = m.row.toArray from rfl, List.getElem?_toArray, MsgV.row, List.getElem?_append_left (by rw [head_row_len]; omega)]
  have h := hd2 m.head
  rw [show m.head.cells = m.head.row.toArray from rfl, List.getElem?_toArray] at h
  exact h
@[go_sem] theorem msgg2 (hp : 2 < m.cells.size) : m.cells[2] = .int .u16 m.head.command := Option.some.inj ((Array.getElem?_eq_getElem hp).symm.trans (msgq2 m))
@[go_sem] theorem msgq3 : m.cells[3]? = some (.int .u16 m.head.credits) := by
  rw [show m.cells = m.row.toArray from rfl, List.getElem?_toArray, MsgV.row, List.getElem?_append_left (by rw [head_row_len]; omega)]
  have h := hd3 m.head
  rw [show m.head.cells = m.head.row.toArray from rfl, List.getElem?_toArray] at h
  exact h
@[go_sem] theorem msgg3 (hp : 3 < m.cells.size) : m.cells[3] = .int .u16 m.head.credits := Option.some.inj ((Array.getElem?_eq_getElem hp).symm.trans (msgq3 m))
@[go_sem] theorem msgq4 : m.cells[4]? = some (.int .u32 m.head.flags) := by
  rw [show m.cells = m.row.toArray from rfl, List.getElem?_toArray, MsgV.row, List.getElem?_append_left (by rw [head_row_len]; omega)]
  have h := hd4 m.head
  rw [show m.head.cells = m.head.row.toArray from rfl, List.getElem?_toArray] at h
  exact h
@[go_sem] theorem msgg4 (hp : 4 < m.cells.size) : m.cells[4] = .int .u32 m.head.flags := Option.some.inj ((Array.getElem?_eq_getElem hp).symm.trans (msgq4 m))
@[go_sem] theorem msgq5 : m.cells[5]? = some (.int .u32 m.head.next) := by
  rw [show m.cells = m.row.toArray from rfl, List.getElem?_toArray, MsgV.row, List.getElem?_append_left (by rw [head_row_len]; omega)]
  have h := hd5 m.head
  rw [show m.head.cells = m.head.row.toArray from rfl, List.getElem?_toArray] at h
  exact h
@[go_sem] theorem msgg5 (hp : 5 < m.cells.size) : m.cells[5] = .int .u32 m.head.next := Option.some.inj ((Array.getElem?_eq_getElem hp).symm.trans (msgq5 m))
@[go_sem] theorem msgq6 : m.cells[6]? = some (.int .u64 m.head.id) := by
  rw [show m.cells = m.row.toArray from rfl, List.getElem?_toArray, MsgV.row, List.getElem?_append_left (by rw [head_row_len]; omega)]
  have h := hd6 m.head
  rw [show m.head.cells = m.head.row.toArray from rfl, List.getElem?_toArray] at h
  exact h
@[go_sem] theorem msgg6 (hp : 6 < m.cells.size) : m.cells[6] = .int .u64 m.head.id := Option.some.inj ((Array.getElem?_eq_getElem hp).symm.trans (msgq6 m))
@[go_sem] theorem msgq7 : m.cells[7]? = some (.int .u64 m.head.async) := by
  rw [show m.cells = m.row.toArray from rfl, List.getElem?_toArray, MsgV.row, List.getElem?_append_left (by rw [head_row_len]; omega)]
  have h := hd7 m.head
  rw [show m.head.cells = m.head.row.toArray from rfl, List.getElem?_toArray] at h
  exact h
@[go_sem] theorem msgg7 (hp : 7 < m.cells.size) : m.cells[7] = .int .u64 m.head.async := Option.some.inj ((Array.getElem?_eq_getElem hp).symm.trans (msgq7 m))
@[go_sem] theorem msgq8 : m.cells[8]? = some (.int .u32 m.head.tree) := by
  rw [show m.cells = m.row.toArray from rfl, List.getElem?_toArray, MsgV.row, List.getElem?_append_left (by rw [head_row_len]; omega)]
  have h := hd8 m.head
  rw [show m.head.cells = m.head.row.toArray from rfl, List.getElem?_toArray] at h
  exact h
@[go_sem] theorem msgg8 (hp : 8 < m.cells.size) : m.cells[8] = .int .u32 m.head.tree := Option.some.inj ((Array.getElem?_eq_getElem hp).symm.trans (msgq8 m))
@[go_sem] theorem msgq9 : m.cells[9]? = some (.int .u64 m.head.session) := by
  rw [show m.cells = m.row.toArray from rfl, List.getElem?_toArray, MsgV.row, List.getElem?_append_left (by rw [head_row_len]; omega)]
  have h := hd9 m.head
  rw [show m.head.cells = m.head.row.toArray from rfl, List.getElem?_toArray] at h
  exact h
@[go_sem] theorem msgg9 (hp : 9 < m.cells.size) : m.cells[9] = .int .u64 m.head.session := Option.some.inj ((Array.getElem?_eq_getElem hp).symm.trans (msgq9 m))
@[go_sem] theorem msgq26 : m.cells[26]? = some (.slice m.ask.dialects.p m.ask.dialects.n m.ask.dialects.cap) := by
  rw [show m.cells = m.row.toArray from rfl, List.getElem?_toArray, MsgV.row, List.getElem?_append_right (by rw [head_row_len]; omega), head_row_len, List.getElem?_append_left (by rw [AskV.row_len]; omega)]
  have h := askq0 m.ask
  rw [show m.ask.cells = m.ask.row.toArray from rfl, List.getElem?_toArray] at h
  exact h
@[go_sem] theorem msgg26 (hp : 26 < m.cells.size) : m.cells[26] = .slice m.ask.dialects.p m.ask.dialects.n m.ask.dialects.cap := Option.some.inj ((Array.getElem?_eq_getElem hp).symm.trans (msgq26 m))
@[go_sem] theorem msgq75 : m.cells[75]? = some (.string m.ask.user) := by
  rw [show m.cells = m.row.toArray from rfl, List.getElem?_toArray, MsgV.row, List.getElem?_append_right (by rw [head_row_len]; omega), head_row_len, List.getElem?_append_left (by rw [AskV.row_len]; omega)]
  have h := askq49 m.ask
  rw [show m.ask.cells = m.ask.row.toArray from rfl, List.getElem?_toArray] at h
  exact h
@[go_sem] theorem msgg75 (hp : 75 < m.cells.size) : m.cells[75] = .string m.ask.user := Option.some.inj ((Array.getElem?_eq_getElem hp).symm.trans (msgq75 m))
@[go_sem] theorem msgq76 : m.cells[76]? = some (.string m.ask.share) := by
  rw [show m.cells = m.row.toArray from rfl, List.getElem?_toArray, MsgV.row, List.getElem?_append_right (by rw [head_row_len]; omega), head_row_len, List.getElem?_append_left (by rw [AskV.row_len]; omega)]
  have h := askq50 m.ask
  rw [show m.ask.cells = m.ask.row.toArray from rfl, List.getElem?_toArray] at h
  exact h
@[go_sem] theorem msgg76 (hp : 76 < m.cells.size) : m.cells[76] = .string m.ask.share := Option.some.inj ((Array.getElem?_eq_getElem hp).symm.trans (msgq76 m))
@[go_sem] theorem msgq77 : m.cells[77]? = some (.int .u32 m.ask.access) := by
  rw [show m.cells = m.row.toArray from rfl, List.getElem?_toArray, MsgV.row, List.getElem?_append_right (by rw [head_row_len]; omega), head_row_len, List.getElem?_append_left (by rw [AskV.row_len]; omega)]
  have h := askq51 m.ask
  rw [show m.ask.cells = m.ask.row.toArray from rfl, List.getElem?_toArray] at h
  exact h
@[go_sem] theorem msgg77 (hp : 77 < m.cells.size) : m.cells[77] = .int .u32 m.ask.access := Option.some.inj ((Array.getElem?_eq_getElem hp).symm.trans (msgq77 m))
@[go_sem] theorem msgq78 : m.cells[78]? = some (.int .u32 m.ask.sharing) := by
  rw [show m.cells = m.row.toArray from rfl, List.getElem?_toArray, MsgV.row, List.getElem?_append_right (by rw [head_row_len]; omega), head_row_len, List.getElem?_append_left (by rw [AskV.row_len]; omega)]
  have h := askq52 m.ask
  rw [show m.ask.cells = m.ask.row.toArray from rfl, List.getElem?_toArray] at h
  exact h
@[go_sem] theorem msgg78 (hp : 78 < m.cells.size) : m.cells[78] = .int .u32 m.ask.sharing := Option.some.inj ((Array.getElem?_eq_getElem hp).symm.trans (msgq78 m))
@[go_sem] theorem msgq79 : m.cells[79]? = some (.int .u32 m.ask.way) := by
  rw [show m.cells = m.row.toArray from rfl, List.getElem?_toArray, MsgV.row, List.getElem?_append_right (by rw [head_row_len]; omega), head_row_len, List.getElem?_append_left (by rw [AskV.row_len]; omega)]
  have h := askq53 m.ask
  rw [show m.ask.cells = m.ask.row.toArray from rfl, List.getElem?_toArray] at h
  exact h
@[go_sem] theorem msgg79 (hp : 79 < m.cells.size) : m.cells[79] = .int .u32 m.ask.way := Option.some.inj ((Array.getElem?_eq_getElem hp).symm.trans (msgq79 m))
@[go_sem] theorem msgq80 : m.cells[80]? = some (.int .u32 m.ask.options) := by
  rw [show m.cells = m.row.toArray from rfl, List.getElem?_toArray, MsgV.row, List.getElem?_append_right (by rw [head_row_len]; omega), head_row_len, List.getElem?_append_left (by rw [AskV.row_len]; omega)]
  have h := askq54 m.ask
  rw [show m.ask.cells = m.ask.row.toArray from rfl, List.getElem?_toArray] at h
  exact h
@[go_sem] theorem msgg80 (hp : 80 < m.cells.size) : m.cells[80] = .int .u32 m.ask.options := Option.some.inj ((Array.getElem?_eq_getElem hp).symm.trans (msgq80 m))
@[go_sem] theorem msgq81 : m.cells[81]? = some (.int .u8 m.ask.level) := by
  rw [show m.cells = m.row.toArray from rfl, List.getElem?_toArray, MsgV.row, List.getElem?_append_right (by rw [head_row_len]; omega), head_row_len, List.getElem?_append_left (by rw [AskV.row_len]; omega)]
  have h := askq55 m.ask
  rw [show m.ask.cells = m.ask.row.toArray from rfl, List.getElem?_toArray] at h
  exact h
@[go_sem] theorem msgg81 (hp : 81 < m.cells.size) : m.cells[81] = .int .u8 m.ask.level := Option.some.inj ((Array.getElem?_eq_getElem hp).symm.trans (msgq81 m))
@[go_sem] theorem msgq82 : m.cells[82]? = some (.int .u8 m.ask.durable) := by
  rw [show m.cells = m.row.toArray from rfl, List.getElem?_toArray, MsgV.row, List.getElem?_append_right (by rw [head_row_len]; omega), head_row_len, List.getElem?_append_left (by rw [AskV.row_len]; omega)]
  have h := askq56 m.ask
  rw [show m.ask.cells = m.ask.row.toArray from rfl, List.getElem?_toArray] at h
  exact h
@[go_sem] theorem msgg82 (hp : 82 < m.cells.size) : m.cells[82] = .int .u8 m.ask.durable := Option.some.inj ((Array.getElem?_eq_getElem hp).symm.trans (msgq82 m))
@[go_sem] theorem msgq83 : m.cells[83]? = some (.int .u64 m.ask.file) := by
  rw [show m.cells = m.row.toArray from rfl, List.getElem?_toArray, MsgV.row, List.getElem?_append_right (by rw [head_row_len]; omega), head_row_len, List.getElem?_append_left (by rw [AskV.row_len]; omega)]
  have h := askq57 m.ask
  rw [show m.ask.cells = m.ask.row.toArray from rfl, List.getElem?_toArray] at h
  exact h
@[go_sem] theorem msgg83 (hp : 83 < m.cells.size) : m.cells[83] = .int .u64 m.ask.file := Option.some.inj ((Array.getElem?_eq_getElem hp).symm.trans (msgq83 m))
@[go_sem] theorem msgq84 : m.cells[84]? = some (.string m.ask.name) := by
  rw [show m.cells = m.row.toArray from rfl, List.getElem?_toArray, MsgV.row, List.getElem?_append_right (by rw [head_row_len]; omega), head_row_len, List.getElem?_append_left (by rw [AskV.row_len]; omega)]
  have h := askq58 m.ask
  rw [show m.ask.cells = m.ask.row.toArray from rfl, List.getElem?_toArray] at h
  exact h
@[go_sem] theorem msgg84 (hp : 84 < m.cells.size) : m.cells[84] = .string m.ask.name := Option.some.inj ((Array.getElem?_eq_getElem hp).symm.trans (msgq84 m))
@[go_sem] theorem msgq85 : m.cells[85]? = some (.int .u64 m.ask.at_) := by
  rw [show m.cells = m.row.toArray from rfl, List.getElem?_toArray, MsgV.row, List.getElem?_append_right (by rw [head_row_len]; omega), head_row_len, List.getElem?_append_left (by rw [AskV.row_len]; omega)]
  have h := askq59 m.ask
  rw [show m.ask.cells = m.ask.row.toArray from rfl, List.getElem?_toArray] at h
  exact h
@[go_sem] theorem msgg85 (hp : 85 < m.cells.size) : m.cells[85] = .int .u64 m.ask.at_ := Option.some.inj ((Array.getElem?_eq_getElem hp).symm.trans (msgq85 m))
@[go_sem] theorem msgq86 : m.cells[86]? = some (.int .u32 m.ask.n) := by
  rw [show m.cells = m.row.toArray from rfl, List.getElem?_toArray, MsgV.row, List.getElem?_append_right (by rw [head_row_len]; omega), head_row_len, List.getElem?_append_left (by rw [AskV.row_len]; omega)]
  have h := askq60 m.ask
  rw [show m.ask.cells = m.ask.row.toArray from rfl, List.getElem?_toArray] at h
  exact h
@[go_sem] theorem msgg86 (hp : 86 < m.cells.size) : m.cells[86] = .int .u32 m.ask.n := Option.some.inj ((Array.getElem?_eq_getElem hp).symm.trans (msgq86 m))
@[go_sem] theorem msgq87 : m.cells[87]? = some (.slice m.ask.data.p m.ask.data.n m.ask.data.cap) := by
  rw [show m.cells = m.row.toArray from rfl, List.getElem?_toArray, MsgV.row, List.getElem?_append_right (by rw [head_row_len]; omega), head_row_len, List.getElem?_append_left (by rw [AskV.row_len]; omega)]
  have h := askq61 m.ask
  rw [show m.ask.cells = m.ask.row.toArray from rfl, List.getElem?_toArray] at h
  exact h
@[go_sem] theorem msgg87 (hp : 87 < m.cells.size) : m.cells[87] = .slice m.ask.data.p m.ask.data.n m.ask.data.cap := Option.some.inj ((Array.getElem?_eq_getElem hp).symm.trans (msgq87 m))
@[go_sem] theorem msgq88 : m.cells[88]? = some (.slice m.ask.locks.p m.ask.locks.n m.ask.locks.cap) := by
  rw [show m.cells = m.row.toArray from rfl, List.getElem?_toArray, MsgV.row, List.getElem?_append_right (by rw [head_row_len]; omega), head_row_len, List.getElem?_append_left (by rw [AskV.row_len]; omega)]
  have h := askq62 m.ask
  rw [show m.ask.cells = m.ask.row.toArray from rfl, List.getElem?_toArray] at h
  exact h
@[go_sem] theorem msgg88 (hp : 88 < m.cells.size) : m.cells[88] = .slice m.ask.locks.p m.ask.locks.n m.ask.locks.cap := Option.some.inj ((Array.getElem?_eq_getElem hp).symm.trans (msgq88 m))
@[go_sem] theorem msgq89 : m.cells[89]? = some (.int .u16 m.ask.most) := by
  rw [show m.cells = m.row.toArray from rfl, List.getElem?_toArray, MsgV.row, List.getElem?_append_right (by rw [head_row_len]; omega), head_row_len, List.getElem?_append_left (by rw [AskV.row_len]; omega)]
  have h := askq63 m.ask
  rw [show m.ask.cells = m.ask.row.toArray from rfl, List.getElem?_toArray] at h
  exact h
@[go_sem] theorem msgg89 (hp : 89 < m.cells.size) : m.cells[89] = .int .u16 m.ask.most := Option.some.inj ((Array.getElem?_eq_getElem hp).symm.trans (msgq89 m))
@[go_sem] theorem msgq90 : m.cells[90]? = some (.string m.ask.pattern) := by
  rw [show m.cells = m.row.toArray from rfl, List.getElem?_toArray, MsgV.row, List.getElem?_append_right (by rw [head_row_len]; omega), head_row_len, List.getElem?_append_left (by rw [AskV.row_len]; omega)]
  have h := askq64 m.ask
  rw [show m.ask.cells = m.ask.row.toArray from rfl, List.getElem?_toArray] at h
  exact h
@[go_sem] theorem msgg90 (hp : 90 < m.cells.size) : m.cells[90] = .string m.ask.pattern := Option.some.inj ((Array.getElem?_eq_getElem hp).symm.trans (msgq90 m))
@[go_sem] theorem msgq91 : m.cells[91]? = some (.string m.ask.after) := by
  rw [show m.cells = m.row.toArray from rfl, List.getElem?_toArray, MsgV.row, List.getElem?_append_right (by rw [head_row_len]; omega), head_row_len, List.getElem?_append_left (by rw [AskV.row_len]; omega)]
  have h := askq65 m.ask
  rw [show m.ask.cells = m.ask.row.toArray from rfl, List.getElem?_toArray] at h
  exact h
@[go_sem] theorem msgg91 (hp : 91 < m.cells.size) : m.cells[91] = .string m.ask.after := Option.some.inj ((Array.getElem?_eq_getElem hp).symm.trans (msgq91 m))
@[go_sem] theorem msgq92 : m.cells[92]? = some (.int .u16 m.ask.cls) := by
  rw [show m.cells = m.row.toArray from rfl, List.getElem?_toArray, MsgV.row, List.getElem?_append_right (by rw [head_row_len]; omega), head_row_len, List.getElem?_append_left (by rw [AskV.row_len]; omega)]
  have h := askq66 m.ask
  rw [show m.ask.cells = m.ask.row.toArray from rfl, List.getElem?_toArray] at h
  exact h
@[go_sem] theorem msgg92 (hp : 92 < m.cells.size) : m.cells[92] = .int .u16 m.ask.cls := Option.some.inj ((Array.getElem?_eq_getElem hp).symm.trans (msgq92 m))
@[go_sem] theorem msgq93 : m.cells[93]? = some (.int .u64 m.ask.size_) := by
  rw [show m.cells = m.row.toArray from rfl, List.getElem?_toArray, MsgV.row, List.getElem?_append_right (by rw [head_row_len]; omega), head_row_len, List.getElem?_append_left (by rw [AskV.row_len]; omega)]
  have h := askq67 m.ask
  rw [show m.ask.cells = m.ask.row.toArray from rfl, List.getElem?_toArray] at h
  exact h
@[go_sem] theorem msgg93 (hp : 93 < m.cells.size) : m.cells[93] = .int .u64 m.ask.size_ := Option.some.inj ((Array.getElem?_eq_getElem hp).symm.trans (msgq93 m))
@[go_sem] theorem msgq94 : m.cells[94]? = some (.bool m.ask.on) := by
  rw [show m.cells = m.row.toArray from rfl, List.getElem?_toArray, MsgV.row, List.getElem?_append_right (by rw [head_row_len]; omega), head_row_len, List.getElem?_append_left (by rw [AskV.row_len]; omega)]
  have h := askq68 m.ask
  rw [show m.ask.cells = m.ask.row.toArray from rfl, List.getElem?_toArray] at h
  exact h
@[go_sem] theorem msgg94 (hp : 94 < m.cells.size) : m.cells[94] = .bool m.ask.on := Option.some.inj ((Array.getElem?_eq_getElem hp).symm.trans (msgq94 m))
@[go_sem] theorem msgq95 : m.cells[95]? = some (.int .u16 m.say.dialect) := by
  rw [show m.cells = m.row.toArray from rfl, List.getElem?_toArray, MsgV.row, List.getElem?_append_right (by rw [head_row_len]; omega), head_row_len, List.getElem?_append_right (by rw [AskV.row_len]; omega), AskV.row_len]
  have h := sayq0 m.say
  rw [show m.say.cells = m.say.row.toArray from rfl, List.getElem?_toArray] at h
  exact h
@[go_sem] theorem msgg95 (hp : 95 < m.cells.size) : m.cells[95] = .int .u16 m.say.dialect := Option.some.inj ((Array.getElem?_eq_getElem hp).symm.trans (msgq95 m))
@[go_sem] theorem msgq96 : m.cells[96]? = some (.int .u64 m.say.size_) := by
  rw [show m.cells = m.row.toArray from rfl, List.getElem?_toArray, MsgV.row, List.getElem?_append_right (by rw [head_row_len]; omega), head_row_len, List.getElem?_append_right (by rw [AskV.row_len]; omega), AskV.row_len]
  have h := sayq1 m.say
  rw [show m.say.cells = m.say.row.toArray from rfl, List.getElem?_toArray] at h
  exact h
@[go_sem] theorem msgg96 (hp : 96 < m.cells.size) : m.cells[96] = .int .u64 m.say.size_ := Option.some.inj ((Array.getElem?_eq_getElem hp).symm.trans (msgq96 m))
@[go_sem] theorem msgq105 : m.cells[105]? = some (.int .u8 m.say.level) := by
  rw [show m.cells = m.row.toArray from rfl, List.getElem?_toArray, MsgV.row, List.getElem?_append_right (by rw [head_row_len]; omega), head_row_len, List.getElem?_append_right (by rw [AskV.row_len]; omega), AskV.row_len]
  have h := sayq10 m.say
  rw [show m.say.cells = m.say.row.toArray from rfl, List.getElem?_toArray] at h
  exact h
@[go_sem] theorem msgg105 (hp : 105 < m.cells.size) : m.cells[105] = .int .u8 m.say.level := Option.some.inj ((Array.getElem?_eq_getElem hp).symm.trans (msgq105 m))
@[go_sem] theorem msgq106 : m.cells[106]? = some (.int .u8 m.say.durable) := by
  rw [show m.cells = m.row.toArray from rfl, List.getElem?_toArray, MsgV.row, List.getElem?_append_right (by rw [head_row_len]; omega), head_row_len, List.getElem?_append_right (by rw [AskV.row_len]; omega), AskV.row_len]
  have h := sayq11 m.say
  rw [show m.say.cells = m.say.row.toArray from rfl, List.getElem?_toArray] at h
  exact h
@[go_sem] theorem msgg106 (hp : 106 < m.cells.size) : m.cells[106] = .int .u8 m.say.durable := Option.some.inj ((Array.getElem?_eq_getElem hp).symm.trans (msgq106 m))
@[go_sem] theorem msgq107 : m.cells[107]? = some (.int .u16 m.say.made) := by
  rw [show m.cells = m.row.toArray from rfl, List.getElem?_toArray, MsgV.row, List.getElem?_append_right (by rw [head_row_len]; omega), head_row_len, List.getElem?_append_right (by rw [AskV.row_len]; omega), AskV.row_len]
  have h := sayq12 m.say
  rw [show m.say.cells = m.say.row.toArray from rfl, List.getElem?_toArray] at h
  exact h
@[go_sem] theorem msgg107 (hp : 107 < m.cells.size) : m.cells[107] = .int .u16 m.say.made := Option.some.inj ((Array.getElem?_eq_getElem hp).symm.trans (msgq107 m))
@[go_sem] theorem msgq108 : m.cells[108]? = some (.int .u64 m.say.file) := by
  rw [show m.cells = m.row.toArray from rfl, List.getElem?_toArray, MsgV.row, List.getElem?_append_right (by rw [head_row_len]; omega), head_row_len, List.getElem?_append_right (by rw [AskV.row_len]; omega), AskV.row_len]
  have h := sayq13 m.say
  rw [show m.say.cells = m.say.row.toArray from rfl, List.getElem?_toArray] at h
  exact h
@[go_sem] theorem msgg108 (hp : 108 < m.cells.size) : m.cells[108] = .int .u64 m.say.file := Option.some.inj ((Array.getElem?_eq_getElem hp).symm.trans (msgq108 m))
@[go_sem] theorem msgq109 : m.cells[109]? = some (.int .u8 m.say.kind) := by
  rw [show m.cells = m.row.toArray from rfl, List.getElem?_toArray, MsgV.row, List.getElem?_append_right (by rw [head_row_len]; omega), head_row_len, List.getElem?_append_right (by rw [AskV.row_len]; omega), AskV.row_len]
  have h := sayq14 m.say
  rw [show m.say.cells = m.say.row.toArray from rfl, List.getElem?_toArray] at h
  exact h
@[go_sem] theorem msgg109 (hp : 109 < m.cells.size) : m.cells[109] = .int .u8 m.say.kind := Option.some.inj ((Array.getElem?_eq_getElem hp).symm.trans (msgq109 m))
@[go_sem] theorem msgq110 : m.cells[110]? = some (.slice m.say.data.p m.say.data.n m.say.data.cap) := by
  rw [show m.cells = m.row.toArray from rfl, List.getElem?_toArray, MsgV.row, List.getElem?_append_right (by rw [head_row_len]; omega), head_row_len, List.getElem?_append_right (by rw [AskV.row_len]; omega), AskV.row_len]
  have h := sayq15 m.say
  rw [show m.say.cells = m.say.row.toArray from rfl, List.getElem?_toArray] at h
  exact h
@[go_sem] theorem msgg110 (hp : 110 < m.cells.size) : m.cells[110] = .slice m.say.data.p m.say.data.n m.say.data.cap := Option.some.inj ((Array.getElem?_eq_getElem hp).symm.trans (msgq110 m))
@[go_sem] theorem msgq111 : m.cells[111]? = some (.int .u32 m.say.n) := by
  rw [show m.cells = m.row.toArray from rfl, List.getElem?_toArray, MsgV.row, List.getElem?_append_right (by rw [head_row_len]; omega), head_row_len, List.getElem?_append_right (by rw [AskV.row_len]; omega), AskV.row_len]
  have h := sayq16 m.say
  rw [show m.say.cells = m.say.row.toArray from rfl, List.getElem?_toArray] at h
  exact h
@[go_sem] theorem msgg111 (hp : 111 < m.cells.size) : m.cells[111] = .int .u32 m.say.n := Option.some.inj ((Array.getElem?_eq_getElem hp).symm.trans (msgq111 m))
@[go_sem] theorem msgq112 : m.cells[112]? = some (.slice m.say.entries.p m.say.entries.n m.say.entries.cap) := by
  rw [show m.cells = m.row.toArray from rfl, List.getElem?_toArray, MsgV.row, List.getElem?_append_right (by rw [head_row_len]; omega), head_row_len, List.getElem?_append_right (by rw [AskV.row_len]; omega), AskV.row_len]
  have h := sayq17 m.say
  rw [show m.say.cells = m.say.row.toArray from rfl, List.getElem?_toArray] at h
  exact h
@[go_sem] theorem msgg112 (hp : 112 < m.cells.size) : m.cells[112] = .slice m.say.entries.p m.say.entries.n m.say.entries.cap := Option.some.inj ((Array.getElem?_eq_getElem hp).symm.trans (msgq112 m))
@[go_sem] theorem msgq113 : m.cells[113]? = some (.bool m.say.more) := by
  rw [show m.cells = m.row.toArray from rfl, List.getElem?_toArray, MsgV.row, List.getElem?_append_right (by rw [head_row_len]; omega), head_row_len, List.getElem?_append_right (by rw [AskV.row_len]; omega), AskV.row_len]
  have h := sayq18 m.say
  rw [show m.say.cells = m.say.row.toArray from rfl, List.getElem?_toArray] at h
  exact h
@[go_sem] theorem msgg113 (hp : 113 < m.cells.size) : m.cells[113] = .bool m.say.more := Option.some.inj ((Array.getElem?_eq_getElem hp).symm.trans (msgq113 m))
@[go_sem] theorem msgq114 : m.cells[114]? = some (.bool m.say.gone) := by
  rw [show m.cells = m.row.toArray from rfl, List.getElem?_toArray, MsgV.row, List.getElem?_append_right (by rw [head_row_len]; omega), head_row_len, List.getElem?_append_right (by rw [AskV.row_len]; omega), AskV.row_len]
  have h := sayq19 m.say
  rw [show m.say.cells = m.say.row.toArray from rfl, List.getElem?_toArray] at h
  exact h
@[go_sem] theorem msgg114 (hp : 114 < m.cells.size) : m.cells[114] = .bool m.say.gone := Option.some.inj ((Array.getElem?_eq_getElem hp).symm.trans (msgq114 m))
end
theorem put_row (a b c d : List Value) (t : TypeId) (hc : c.length = b.length) : putsAt (some (.cells (a ++ (b ++ d)).toArray t (0, 0))) a.length c.toArray = some (.cells (a ++ (c ++ d)).toArray t (0, 0)) := by
  rw [putsAt_some, if_pos (by simp; omega)]
  congr 2
  apply Array.toList_inj.1
  simp only [List.size_toArray]
  rw [List.take_left' rfl, hc]
  have : a.length + b.length = (a ++ b).length := by simp
  rw [this, ← List.append_assoc a b d, List.drop_left' rfl]
  simp
@[go_sem high] theorem msg_put0 (m : MsgV) (h : HeadV) (t : TypeId) : putsAt (some (.cells m.cells t (0, 0))) 0 h.cells = some (.cells { m with head := h }.cells t (0, 0)) :=
  put_row [] m.head.row h.row (m.ask.row ++ m.say.row) t (by rw [head_row_len, head_row_len])
@[go_sem high] theorem msg_put1 (m : MsgV) (a : AskV) (t : TypeId) : putsAt (some (.cells m.cells t (0, 0))) 26 a.cells = some (.cells { m with ask := a }.cells t (0, 0)) := by
  have := put_row m.head.row m.ask.row a.row m.say.row t (by rw [AskV.row_len, AskV.row_len])
  rw [head_row_len] at this
  exact this
@[go_sem high] theorem msg_put2 (m : MsgV) (s : SayV) (t : TypeId) : putsAt (some (.cells m.cells t (0, 0))) 95 s.cells = some (.cells { m with say := s }.cells t (0, 0)) := by
  have := put_row (m.head.row ++ m.ask.row) m.say.row s.row [] t (by rw [SayV.row_len, SayV.row_len])
  rw [List.length_append, head_row_len, AskV.row_len] at this
  simpa [MsgV.cells, MsgV.row, SayV.cells] using this
end Go.Proofs.YtinfdomlpbikaaaGreatDoor
