/-
  NARROWER THAN 'FOR EVERY INPUT', by the rows' own cells (each row's printed sentence says how): MsgPuts: laid · MsgGets: laid · MsgAnswers: laid · MsgBack: laid · MsgOnce: laid · MsgFresh: laid · MsgSigns: laid · MsgSigned: laid.
  DERIVED. THE GIVEN ROWS OF THIS SEAT. 8 by the template 'for every input the law returns true; each argument reads behind the call as it read before'; 0 by the template 'total and deterministic' (their statements: YtinfdomlpbikaaaGreatDoorTotals.lean).
  GIVEN WITH THE SEED: the statements are not yours to turn. If you find one false, say at which input.
  Laid BY PROGRAM, IN A SANDBOX (cutbox-rows.mjs): the forced cells as the released guide's own fill.sh prints them over the translation 3215dceb719f5721… (all of the seat's roots in one cut). By AI agents, Wed Nov 11 2026. No macro, syntax, notation, axiom, sorry.
-/
import Derived.Test.YtinfdomlpbikaaaGreatDoorChecked
import GoSem.PinnedTables
import GoSem.Claim
import GoSem.ClaimJoined
import GoSem.ClaimMapViews
import Derived.JoinedTies
import Derived.KernelRfl
namespace Go.Proofs.YtinfdomlpbikaaaGreatDoor
/- THE CELL 'sum', in the pinned program and in every row, IS THE sha256 OF THE DUMP (.gsa) THAT YtinfdomlpbikaaaGreatDoorProg.lean LOADS. Nothing in Lean hashes anything: it is a label: what it is worth is what the hold of that sum in a sandbox is worth. -/
noncomputable def Tryz.pinned : Pinned := { name := "ytinfdomlpbikaaagreatdoor", sum := "3215dceb719f57214046b191d99c4fc0d984c972076af68c17ba2f0eeb819535", checked := Tryz.checked }
namespace Rows
def none {H : Type} : Left H := { results := [], args := [] }

/- WHAT THE LISTED PACKAGE-LEVEL VARIABLES READ AS WHEN THE CALL BEGINS. Each datum BY PROGRAM (the guide's laid-datum.mjs) off the statement by which the dump's own 'gosem.cut.vars' lays the variable. In a bare row this is a premise. The card (YtinfdomlpbikaaaGreatDoorCards.lean) ties it to the program's text. -/
def laid_unicode_utf8_acceptRanges {H : Type} : DataW H := .agg [.agg [.lit (.int .u8 128), .lit (.int .u8 191)], .agg [.lit (.int .u8 160), .lit (.int .u8 191)], .agg [.lit (.int .u8 128), .lit (.int .u8 159)], .agg [.lit (.int .u8 144), .lit (.int .u8 191)], .agg [.lit (.int .u8 128), .lit (.int .u8 143)], .agg [.lit (.int .u8 0), .lit (.int .u8 0)], .agg [.lit (.int .u8 0), .lit (.int .u8 0)], .agg [.lit (.int .u8 0), .lit (.int .u8 0)], .agg [.lit (.int .u8 0), .lit (.int .u8 0)], .agg [.lit (.int .u8 0), .lit (.int .u8 0)], .agg [.lit (.int .u8 0), .lit (.int .u8 0)], .agg [.lit (.int .u8 0), .lit (.int .u8 0)], .agg [.lit (.int .u8 0), .lit (.int .u8 0)], .agg [.lit (.int .u8 0), .lit (.int .u8 0)], .agg [.lit (.int .u8 0), .lit (.int .u8 0)], .agg [.lit (.int .u8 0), .lit (.int .u8 0)]]
/-- One of Go's own tables, pinned by name: the form's constant. -/
def laid_unicode_utf8_first : DataW Unit := Go.Pinned.utf8First
def laid_refectory_sha_constants {H : Type} : DataW H := .agg [.lit (.int .u32 1116352408), .lit (.int .u32 1899447441), .lit (.int .u32 3049323471), .lit (.int .u32 3921009573), .lit (.int .u32 961987163), .lit (.int .u32 1508970993), .lit (.int .u32 2453635748), .lit (.int .u32 2870763221), .lit (.int .u32 3624381080), .lit (.int .u32 310598401), .lit (.int .u32 607225278), .lit (.int .u32 1426881987), .lit (.int .u32 1925078388), .lit (.int .u32 2162078206), .lit (.int .u32 2614888103), .lit (.int .u32 3248222580), .lit (.int .u32 3835390401), .lit (.int .u32 4022224774), .lit (.int .u32 264347078), .lit (.int .u32 604807628), .lit (.int .u32 770255983), .lit (.int .u32 1249150122), .lit (.int .u32 1555081692), .lit (.int .u32 1996064986), .lit (.int .u32 2554220882), .lit (.int .u32 2821834349), .lit (.int .u32 2952996808), .lit (.int .u32 3210313671), .lit (.int .u32 3336571891), .lit (.int .u32 3584528711), .lit (.int .u32 113926993), .lit (.int .u32 338241895), .lit (.int .u32 666307205), .lit (.int .u32 773529912), .lit (.int .u32 1294757372), .lit (.int .u32 1396182291), .lit (.int .u32 1695183700), .lit (.int .u32 1986661051), .lit (.int .u32 2177026350), .lit (.int .u32 2456956037), .lit (.int .u32 2730485921), .lit (.int .u32 2820302411), .lit (.int .u32 3259730800), .lit (.int .u32 3345764771), .lit (.int .u32 3516065817), .lit (.int .u32 3600352804), .lit (.int .u32 4094571909), .lit (.int .u32 275423344), .lit (.int .u32 430227734), .lit (.int .u32 506948616), .lit (.int .u32 659060556), .lit (.int .u32 883997877), .lit (.int .u32 958139571), .lit (.int .u32 1322822218), .lit (.int .u32 1537002063), .lit (.int .u32 1747873779), .lit (.int .u32 1955562222), .lit (.int .u32 2024104815), .lit (.int .u32 2227730452), .lit (.int .u32 2361852424), .lit (.int .u32 2428436474), .lit (.int .u32 2756734187), .lit (.int .u32 3204031479), .lit (.int .u32 3329325298)]

/-- 'refectorylaw11.MsgPuts': WHATEVER THE INPUT: true; the input reads as it did. -/
def msgPutsSpec : ChangeSpec := { name := "msgPuts", fn := fun _ => fun
  | [d] => { results := [.lit (.bool true)], args := [d] }
  | _ => none }
def msgPutsRow : OpenClaim := { program := "ytinfdomlpbikaaagreatdoor", sum := "3215dceb719f57214046b191d99c4fc0d984c972076af68c17ba2f0eeb819535", func := "refectory/refectorylaw11.MsgPuts", spec := "msgPuts", unfollowed := true, recurses := true, named := ["unicode/utf8.first", "unicode/utf8.acceptRanges"], apart := false, laid := [("unicode/utf8.acceptRanges", laid_unicode_utf8_acceptRanges), ("unicode/utf8.first", laid_unicode_utf8_first)] }
def MsgPutsSaid : Prop := msgPutsRow.holds Tryz.pinned (OpenSpec.ofChange msgPutsSpec)

/-- ITS FALSE NEIGHBOUR: 'it returns false'. Refute it at one input. -/
def msgPutsWrong : ChangeSpec := { name := "msgPuts", fn := fun _ => fun
  | [d] => { results := [.lit (.bool false)], args := [d] }
  | _ => none }
def MsgPutsWrongFalsely : Prop := msgPutsRow.holds Tryz.pinned (OpenSpec.ofChange msgPutsWrong)

/-- 'refectorylaw11.MsgGets': WHATEVER THE INPUT: true; the input reads as it did. -/
def msgGetsSpec : ChangeSpec := { name := "msgGets", fn := fun _ => fun
  | [d] => { results := [.lit (.bool true)], args := [d] }
  | _ => none }
def msgGetsRow : OpenClaim := { program := "ytinfdomlpbikaaagreatdoor", sum := "3215dceb719f57214046b191d99c4fc0d984c972076af68c17ba2f0eeb819535", func := "refectory/refectorylaw11.MsgGets", spec := "msgGets", unfollowed := true, recurses := true, named := ["unicode/utf8.first", "unicode/utf8.acceptRanges"], apart := false, laid := [("unicode/utf8.acceptRanges", laid_unicode_utf8_acceptRanges), ("unicode/utf8.first", laid_unicode_utf8_first)] }
def MsgGetsSaid : Prop := msgGetsRow.holds Tryz.pinned (OpenSpec.ofChange msgGetsSpec)

/-- ITS FALSE NEIGHBOUR: 'it returns false'. Refute it at one input. -/
def msgGetsWrong : ChangeSpec := { name := "msgGets", fn := fun _ => fun
  | [d] => { results := [.lit (.bool false)], args := [d] }
  | _ => none }
def MsgGetsWrongFalsely : Prop := msgGetsRow.holds Tryz.pinned (OpenSpec.ofChange msgGetsWrong)

/-- 'refectorylaw11.MsgAnswers': WHATEVER THE INPUT: true; the input reads as it did. -/
def msgAnswersSpec : ChangeSpec := { name := "msgAnswers", fn := fun _ => fun
  | [d1, d2] => { results := [.lit (.bool true)], args := [d1, d2] }
  | _ => none }
def msgAnswersRow : OpenClaim := { program := "ytinfdomlpbikaaagreatdoor", sum := "3215dceb719f57214046b191d99c4fc0d984c972076af68c17ba2f0eeb819535", func := "refectory/refectorylaw11.MsgAnswers", spec := "msgAnswers", unfollowed := true, recurses := true, named := ["unicode/utf8.first", "unicode/utf8.acceptRanges"], apart := false, laid := [("unicode/utf8.acceptRanges", laid_unicode_utf8_acceptRanges), ("unicode/utf8.first", laid_unicode_utf8_first)] }
def MsgAnswersSaid : Prop := msgAnswersRow.holds Tryz.pinned (OpenSpec.ofChange msgAnswersSpec)

/-- ITS FALSE NEIGHBOUR: 'it returns false'. Refute it at one input. -/
def msgAnswersWrong : ChangeSpec := { name := "msgAnswers", fn := fun _ => fun
  | [d1, d2] => { results := [.lit (.bool false)], args := [d1, d2] }
  | _ => none }
def MsgAnswersWrongFalsely : Prop := msgAnswersRow.holds Tryz.pinned (OpenSpec.ofChange msgAnswersWrong)

/-- 'refectorylaw11.MsgBack': WHATEVER THE INPUT: true; the input reads as it did. -/
def msgBackSpec : ChangeSpec := { name := "msgBack", fn := fun _ => fun
  | [d] => { results := [.lit (.bool true)], args := [d] }
  | _ => none }
def msgBackRow : OpenClaim := { program := "ytinfdomlpbikaaagreatdoor", sum := "3215dceb719f57214046b191d99c4fc0d984c972076af68c17ba2f0eeb819535", func := "refectory/refectorylaw11.MsgBack", spec := "msgBack", unfollowed := true, recurses := true, named := ["unicode/utf8.first", "unicode/utf8.acceptRanges"], apart := false, laid := [("unicode/utf8.acceptRanges", laid_unicode_utf8_acceptRanges), ("unicode/utf8.first", laid_unicode_utf8_first)] }
def MsgBackSaid : Prop := msgBackRow.holds Tryz.pinned (OpenSpec.ofChange msgBackSpec)

/-- ITS FALSE NEIGHBOUR: 'it returns false'. Refute it at one input. -/
def msgBackWrong : ChangeSpec := { name := "msgBack", fn := fun _ => fun
  | [d] => { results := [.lit (.bool false)], args := [d] }
  | _ => none }
def MsgBackWrongFalsely : Prop := msgBackRow.holds Tryz.pinned (OpenSpec.ofChange msgBackWrong)

/-- 'refectorylaw11.MsgOnce': WHATEVER THE INPUT: true; the input reads as it did. -/
def msgOnceSpec : ChangeSpec := { name := "msgOnce", fn := fun _ => fun
  | [d] => { results := [.lit (.bool true)], args := [d] }
  | _ => none }
def msgOnceRow : OpenClaim := { program := "ytinfdomlpbikaaagreatdoor", sum := "3215dceb719f57214046b191d99c4fc0d984c972076af68c17ba2f0eeb819535", func := "refectory/refectorylaw11.MsgOnce", spec := "msgOnce", unfollowed := true, recurses := true, named := ["unicode/utf8.first", "unicode/utf8.acceptRanges"], apart := false, laid := [("unicode/utf8.acceptRanges", laid_unicode_utf8_acceptRanges), ("unicode/utf8.first", laid_unicode_utf8_first)] }
def MsgOnceSaid : Prop := msgOnceRow.holds Tryz.pinned (OpenSpec.ofChange msgOnceSpec)

/-- ITS FALSE NEIGHBOUR: 'it returns false'. Refute it at one input. -/
def msgOnceWrong : ChangeSpec := { name := "msgOnce", fn := fun _ => fun
  | [d] => { results := [.lit (.bool false)], args := [d] }
  | _ => none }
def MsgOnceWrongFalsely : Prop := msgOnceRow.holds Tryz.pinned (OpenSpec.ofChange msgOnceWrong)

/-- 'refectorylaw11.MsgFresh': WHATEVER THE INPUT: true; the input reads as it did. -/
def msgFreshSpec : ChangeSpec := { name := "msgFresh", fn := fun _ => fun
  | [d] => { results := [.lit (.bool true)], args := [d] }
  | _ => none }
def msgFreshRow : OpenClaim := { program := "ytinfdomlpbikaaagreatdoor", sum := "3215dceb719f57214046b191d99c4fc0d984c972076af68c17ba2f0eeb819535", func := "refectory/refectorylaw11.MsgFresh", spec := "msgFresh", unfollowed := true, recurses := true, named := ["unicode/utf8.first", "unicode/utf8.acceptRanges"], apart := false, laid := [("unicode/utf8.acceptRanges", laid_unicode_utf8_acceptRanges), ("unicode/utf8.first", laid_unicode_utf8_first)] }
def MsgFreshSaid : Prop := msgFreshRow.holds Tryz.pinned (OpenSpec.ofChange msgFreshSpec)

/-- ITS FALSE NEIGHBOUR: 'it returns false'. Refute it at one input. -/
def msgFreshWrong : ChangeSpec := { name := "msgFresh", fn := fun _ => fun
  | [d] => { results := [.lit (.bool false)], args := [d] }
  | _ => none }
def MsgFreshWrongFalsely : Prop := msgFreshRow.holds Tryz.pinned (OpenSpec.ofChange msgFreshWrong)

/-- 'refectorylaw11.MsgSigns': WHATEVER THE INPUT: true; the input reads as it did. -/
def msgSignsSpec : ChangeSpec := { name := "msgSigns", fn := fun _ => fun
  | [d1, d2, d3] => { results := [.lit (.bool true)], args := [d1, d2, d3] }
  | _ => none }
def msgSignsRow : OpenClaim := { program := "ytinfdomlpbikaaagreatdoor", sum := "3215dceb719f57214046b191d99c4fc0d984c972076af68c17ba2f0eeb819535", func := "refectory/refectorylaw11.MsgSigns", spec := "msgSigns", unfollowed := true, recurses := true, named := ["unicode/utf8.first", "unicode/utf8.acceptRanges", "refectory/sha.constants"], apart := false, laid := [("refectory/sha.constants", laid_refectory_sha_constants), ("unicode/utf8.acceptRanges", laid_unicode_utf8_acceptRanges), ("unicode/utf8.first", laid_unicode_utf8_first)] }
def MsgSignsSaid : Prop := msgSignsRow.holds Tryz.pinned (OpenSpec.ofChange msgSignsSpec)

/-- ITS FALSE NEIGHBOUR: 'it returns false'. Refute it at one input. -/
def msgSignsWrong : ChangeSpec := { name := "msgSigns", fn := fun _ => fun
  | [d1, d2, d3] => { results := [.lit (.bool false)], args := [d1, d2, d3] }
  | _ => none }
def MsgSignsWrongFalsely : Prop := msgSignsRow.holds Tryz.pinned (OpenSpec.ofChange msgSignsWrong)

/-- 'refectorylaw11.MsgSigned': WHATEVER THE INPUT: true; the input reads as it did. -/
def msgSignedSpec : ChangeSpec := { name := "msgSigned", fn := fun _ => fun
  | [d1, d2] => { results := [.lit (.bool true)], args := [d1, d2] }
  | _ => none }
def msgSignedRow : OpenClaim := { program := "ytinfdomlpbikaaagreatdoor", sum := "3215dceb719f57214046b191d99c4fc0d984c972076af68c17ba2f0eeb819535", func := "refectory/refectorylaw11.MsgSigned", spec := "msgSigned", unfollowed := true, recurses := true, named := ["unicode/utf8.first", "unicode/utf8.acceptRanges", "refectory/sha.constants"], apart := false, laid := [("refectory/sha.constants", laid_refectory_sha_constants), ("unicode/utf8.acceptRanges", laid_unicode_utf8_acceptRanges), ("unicode/utf8.first", laid_unicode_utf8_first)] }
def MsgSignedSaid : Prop := msgSignedRow.holds Tryz.pinned (OpenSpec.ofChange msgSignedSpec)

/-- ITS FALSE NEIGHBOUR: 'it returns false'. Refute it at one input. -/
def msgSignedWrong : ChangeSpec := { name := "msgSigned", fn := fun _ => fun
  | [d1, d2] => { results := [.lit (.bool false)], args := [d1, d2] }
  | _ => none }
def MsgSignedWrongFalsely : Prop := msgSignedRow.holds Tryz.pinned (OpenSpec.ofChange msgSignedWrong)

/- THE SECOND FORM. 'bulk': how many values and letters a reading holds, each counted each time it is reached (what is shared counts as often as it is met; a slice's spare places count too). A statement '..UptoSaid' is the law's where the arguments, and the package variables that the reading takes, are together of bulk at most 1048576: NARROWER than '..Said'. Prove '..Said' where nothing that the law and all that it calls make is longer than what came in: it says more and counts as full. Else prove '..UptoSaid'. A law counts once. -/
mutual
def uptoBulk {H : Type} : DataW H → Nat
  | .lit (.string bytes) => bytes.length + 1
  | .lit _ => 1
  | .nil => 1
  | .ptr d => uptoBulk d + 1
  | .slice elems spare => uptoBulkAll elems + uptoBulkAll spare + 1
  | .agg parts => uptoBulkAll parts + 1
  | .iface _ d => uptoBulk d + 1
  | .map entries => uptoBulkEntries entries + 1
  | .held _ => 1
def uptoBulkAll {H : Type} : List (DataW H) → Nat
  | [] => 0
  | d :: r => uptoBulk d + uptoBulkAll r
def uptoBulkEntries {H : Type} : List (Lit × DataW H) → Nat
  | [] => 0
  | x :: r => uptoBulkEntry x + uptoBulkEntries r
def uptoBulkEntry {H : Type} : Lit × DataW H → Nat
  | (.string bytes, d) => bytes.length + uptoBulk d + 1
  | (_, d) => uptoBulk d + 1
 end
def uptoSmall : (H : Type) → List (DataW H) → Bool := fun _ ds => decide (uptoBulkAll ds ≤ 1048576)
def OpenSpec.upto (s : _root_.Go.ChangeSpec) : _root_.Go.OpenSpec := { _root_.Go.OpenSpec.ofChange s with cond := some uptoSmall }

/-- 'refectorylaw11.MsgPuts', WHERE WHAT IT READS IS OF BULK AT MOST 1048576: true; the input reads as it did. -/
def msgPutsUptoRow : OpenClaim := { program := "ytinfdomlpbikaaagreatdoor", sum := "3215dceb719f57214046b191d99c4fc0d984c972076af68c17ba2f0eeb819535", func := "refectory/refectorylaw11.MsgPuts", spec := "msgPuts", unfollowed := true, recurses := true, named := ["unicode/utf8.first", "unicode/utf8.acceptRanges"], apart := false, laid := [("unicode/utf8.acceptRanges", laid_unicode_utf8_acceptRanges), ("unicode/utf8.first", laid_unicode_utf8_first)], narrowed := true }
def MsgPutsUptoSaid : Prop := msgPutsUptoRow.holds Tryz.pinned (OpenSpec.upto msgPutsSpec)

/-- 'refectorylaw11.MsgGets', WHERE WHAT IT READS IS OF BULK AT MOST 1048576: true; the input reads as it did. -/
def msgGetsUptoRow : OpenClaim := { program := "ytinfdomlpbikaaagreatdoor", sum := "3215dceb719f57214046b191d99c4fc0d984c972076af68c17ba2f0eeb819535", func := "refectory/refectorylaw11.MsgGets", spec := "msgGets", unfollowed := true, recurses := true, named := ["unicode/utf8.first", "unicode/utf8.acceptRanges"], apart := false, laid := [("unicode/utf8.acceptRanges", laid_unicode_utf8_acceptRanges), ("unicode/utf8.first", laid_unicode_utf8_first)], narrowed := true }
def MsgGetsUptoSaid : Prop := msgGetsUptoRow.holds Tryz.pinned (OpenSpec.upto msgGetsSpec)

/-- 'refectorylaw11.MsgAnswers', WHERE WHAT IT READS IS OF BULK AT MOST 1048576: true; the input reads as it did. -/
def msgAnswersUptoRow : OpenClaim := { program := "ytinfdomlpbikaaagreatdoor", sum := "3215dceb719f57214046b191d99c4fc0d984c972076af68c17ba2f0eeb819535", func := "refectory/refectorylaw11.MsgAnswers", spec := "msgAnswers", unfollowed := true, recurses := true, named := ["unicode/utf8.first", "unicode/utf8.acceptRanges"], apart := false, laid := [("unicode/utf8.acceptRanges", laid_unicode_utf8_acceptRanges), ("unicode/utf8.first", laid_unicode_utf8_first)], narrowed := true }
def MsgAnswersUptoSaid : Prop := msgAnswersUptoRow.holds Tryz.pinned (OpenSpec.upto msgAnswersSpec)

/-- 'refectorylaw11.MsgBack', WHERE WHAT IT READS IS OF BULK AT MOST 1048576: true; the input reads as it did. -/
def msgBackUptoRow : OpenClaim := { program := "ytinfdomlpbikaaagreatdoor", sum := "3215dceb719f57214046b191d99c4fc0d984c972076af68c17ba2f0eeb819535", func := "refectory/refectorylaw11.MsgBack", spec := "msgBack", unfollowed := true, recurses := true, named := ["unicode/utf8.first", "unicode/utf8.acceptRanges"], apart := false, laid := [("unicode/utf8.acceptRanges", laid_unicode_utf8_acceptRanges), ("unicode/utf8.first", laid_unicode_utf8_first)], narrowed := true }
def MsgBackUptoSaid : Prop := msgBackUptoRow.holds Tryz.pinned (OpenSpec.upto msgBackSpec)

/-- 'refectorylaw11.MsgOnce', WHERE WHAT IT READS IS OF BULK AT MOST 1048576: true; the input reads as it did. -/
def msgOnceUptoRow : OpenClaim := { program := "ytinfdomlpbikaaagreatdoor", sum := "3215dceb719f57214046b191d99c4fc0d984c972076af68c17ba2f0eeb819535", func := "refectory/refectorylaw11.MsgOnce", spec := "msgOnce", unfollowed := true, recurses := true, named := ["unicode/utf8.first", "unicode/utf8.acceptRanges"], apart := false, laid := [("unicode/utf8.acceptRanges", laid_unicode_utf8_acceptRanges), ("unicode/utf8.first", laid_unicode_utf8_first)], narrowed := true }
def MsgOnceUptoSaid : Prop := msgOnceUptoRow.holds Tryz.pinned (OpenSpec.upto msgOnceSpec)

/-- 'refectorylaw11.MsgFresh', WHERE WHAT IT READS IS OF BULK AT MOST 1048576: true; the input reads as it did. -/
def msgFreshUptoRow : OpenClaim := { program := "ytinfdomlpbikaaagreatdoor", sum := "3215dceb719f57214046b191d99c4fc0d984c972076af68c17ba2f0eeb819535", func := "refectory/refectorylaw11.MsgFresh", spec := "msgFresh", unfollowed := true, recurses := true, named := ["unicode/utf8.first", "unicode/utf8.acceptRanges"], apart := false, laid := [("unicode/utf8.acceptRanges", laid_unicode_utf8_acceptRanges), ("unicode/utf8.first", laid_unicode_utf8_first)], narrowed := true }
def MsgFreshUptoSaid : Prop := msgFreshUptoRow.holds Tryz.pinned (OpenSpec.upto msgFreshSpec)

/-- 'refectorylaw11.MsgSigns', WHERE WHAT IT READS IS OF BULK AT MOST 1048576: true; the input reads as it did. -/
def msgSignsUptoRow : OpenClaim := { program := "ytinfdomlpbikaaagreatdoor", sum := "3215dceb719f57214046b191d99c4fc0d984c972076af68c17ba2f0eeb819535", func := "refectory/refectorylaw11.MsgSigns", spec := "msgSigns", unfollowed := true, recurses := true, named := ["unicode/utf8.first", "unicode/utf8.acceptRanges", "refectory/sha.constants"], apart := false, laid := [("refectory/sha.constants", laid_refectory_sha_constants), ("unicode/utf8.acceptRanges", laid_unicode_utf8_acceptRanges), ("unicode/utf8.first", laid_unicode_utf8_first)], narrowed := true }
def MsgSignsUptoSaid : Prop := msgSignsUptoRow.holds Tryz.pinned (OpenSpec.upto msgSignsSpec)

/-- 'refectorylaw11.MsgSigned', WHERE WHAT IT READS IS OF BULK AT MOST 1048576: true; the input reads as it did. -/
def msgSignedUptoRow : OpenClaim := { program := "ytinfdomlpbikaaagreatdoor", sum := "3215dceb719f57214046b191d99c4fc0d984c972076af68c17ba2f0eeb819535", func := "refectory/refectorylaw11.MsgSigned", spec := "msgSigned", unfollowed := true, recurses := true, named := ["unicode/utf8.first", "unicode/utf8.acceptRanges", "refectory/sha.constants"], apart := false, laid := [("refectory/sha.constants", laid_refectory_sha_constants), ("unicode/utf8.acceptRanges", laid_unicode_utf8_acceptRanges), ("unicode/utf8.first", laid_unicode_utf8_first)], narrowed := true }
def MsgSignedUptoSaid : Prop := msgSignedUptoRow.holds Tryz.pinned (OpenSpec.upto msgSignedSpec)

end Rows
end Go.Proofs.YtinfdomlpbikaaaGreatDoor
