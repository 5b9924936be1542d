/-
  No cell of these rows narrows 'for every input' (looked for: loops, veiled, ifaces, maps, wideKeys, modest, calm, conditions, laid).
  DERIVED. THE GIVEN ROWS OF THIS SEAT. 8 by the template 'for every input the law returns true; each argument reads behind the call as it read before'; 0 by the template 'total and deterministic' (their statements: YtnelmicecaggoaaTotals.lean).
  GIVEN WITH THE SEED: the statements are not yours to turn. If you find one false, say at which input.
  Laid BY PROGRAM, IN A SANDBOX (cutbox-rows.mjs): the forced cells as the released guide's own fill.sh prints them over the translation 2d9a0411a34ef505… (all of the seat's roots in one cut). By AI agents, Wed Nov 11 2026. No macro, syntax, notation, axiom, sorry.
-/
import Derived.Test.YtnelmicecaggoaaChecked
import GoSem.Claim
import GoSem.ClaimJoined
import GoSem.ClaimMapViews
import Derived.JoinedTies
import Derived.KernelRfl
namespace Go.Proofs.Ytnelmicecaggoaa
/- THE CELL 'sum', in the pinned program and in every row, IS THE sha256 OF THE DUMP (.gsa) THAT YtnelmicecaggoaaProg.lean LOADS. Nothing in Lean hashes anything: it is a label: what it is worth is what the hold of that sum in a sandbox is worth. -/
noncomputable def Try.pinned : Pinned := { name := "ytnelmicecaggoaa", sum := "2d9a0411a34ef5058f73ff180059b6ebc4d557ddf153e85031c3b47ea7250f24", checked := Try.checked }
namespace Rows
def none {H : Type} : Left H := { results := [], args := [] }

/-- 'refectorylaw20.HoldPlays': WHATEVER THE INPUT: true; the input reads as it did. -/
def holdPlaysSpec : ChangeSpec := { name := "holdPlays", fn := fun _ => fun
  | [d] => { results := [.lit (.bool true)], args := [d] }
  | _ => none }
def holdPlaysRow : OpenClaim := { program := "ytnelmicecaggoaa", sum := "2d9a0411a34ef5058f73ff180059b6ebc4d557ddf153e85031c3b47ea7250f24", func := "refectory/refectorylaw20.HoldPlays", spec := "holdPlays", unfollowed := true, recurses := true, apart := false }
def HoldPlaysSaid : Prop := holdPlaysRow.holds Try.pinned (OpenSpec.ofChange holdPlaysSpec)

/-- ITS FALSE NEIGHBOUR: 'it returns false'. Refute it at one input. -/
def holdPlaysWrong : ChangeSpec := { name := "holdPlays", fn := fun _ => fun
  | [d] => { results := [.lit (.bool false)], args := [d] }
  | _ => none }
def HoldPlaysWrongFalsely : Prop := holdPlaysRow.holds Try.pinned (OpenSpec.ofChange holdPlaysWrong)

/-- 'refectorylaw20.HoldAlone': WHATEVER THE INPUT: true; the input reads as it did. -/
def holdAloneSpec : ChangeSpec := { name := "holdAlone", fn := fun _ => fun
  | [d] => { results := [.lit (.bool true)], args := [d] }
  | _ => none }
def holdAloneRow : OpenClaim := { program := "ytnelmicecaggoaa", sum := "2d9a0411a34ef5058f73ff180059b6ebc4d557ddf153e85031c3b47ea7250f24", func := "refectory/refectorylaw20.HoldAlone", spec := "holdAlone", unfollowed := true, recurses := true, apart := false }
def HoldAloneSaid : Prop := holdAloneRow.holds Try.pinned (OpenSpec.ofChange holdAloneSpec)

/-- ITS FALSE NEIGHBOUR: 'it returns false'. Refute it at one input. -/
def holdAloneWrong : ChangeSpec := { name := "holdAlone", fn := fun _ => fun
  | [d] => { results := [.lit (.bool false)], args := [d] }
  | _ => none }
def HoldAloneWrongFalsely : Prop := holdAloneRow.holds Try.pinned (OpenSpec.ofChange holdAloneWrong)

/-- 'refectorylaw20.HoldGoes': WHATEVER THE INPUT: true; the input reads as it did. -/
def holdGoesSpec : ChangeSpec := { name := "holdGoes", fn := fun _ => fun
  | [d1, d2, d3, d4, d5] => { results := [.lit (.bool true)], args := [d1, d2, d3, d4, d5] }
  | _ => none }
def holdGoesRow : OpenClaim := { program := "ytnelmicecaggoaa", sum := "2d9a0411a34ef5058f73ff180059b6ebc4d557ddf153e85031c3b47ea7250f24", func := "refectory/refectorylaw20.HoldGoes", spec := "holdGoes", unfollowed := true, recurses := true, apart := false }
def HoldGoesSaid : Prop := holdGoesRow.holds Try.pinned (OpenSpec.ofChange holdGoesSpec)

/-- ITS FALSE NEIGHBOUR: 'it returns false'. Refute it at one input. -/
def holdGoesWrong : ChangeSpec := { name := "holdGoes", fn := fun _ => fun
  | [d1, d2, d3, d4, d5] => { results := [.lit (.bool false)], args := [d1, d2, d3, d4, d5] }
  | _ => none }
def HoldGoesWrongFalsely : Prop := holdGoesRow.holds Try.pinned (OpenSpec.ofChange holdGoesWrong)

/-- 'refectorylaw20.HoldFresh': WHATEVER THE INPUT: true; the input reads as it did. -/
def holdFreshSpec : ChangeSpec := { name := "holdFresh", fn := fun _ => fun
  | [d1, d2] => { results := [.lit (.bool true)], args := [d1, d2] }
  | _ => none }
def holdFreshRow : OpenClaim := { program := "ytnelmicecaggoaa", sum := "2d9a0411a34ef5058f73ff180059b6ebc4d557ddf153e85031c3b47ea7250f24", func := "refectory/refectorylaw20.HoldFresh", spec := "holdFresh", unfollowed := true, recurses := true, apart := false }
def HoldFreshSaid : Prop := holdFreshRow.holds Try.pinned (OpenSpec.ofChange holdFreshSpec)

/-- ITS FALSE NEIGHBOUR: 'it returns false'. Refute it at one input. -/
def holdFreshWrong : ChangeSpec := { name := "holdFresh", fn := fun _ => fun
  | [d1, d2] => { results := [.lit (.bool false)], args := [d1, d2] }
  | _ => none }
def HoldFreshWrongFalsely : Prop := holdFreshRow.holds Try.pinned (OpenSpec.ofChange holdFreshWrong)

/-- 'refectorylaw20.HoldFalls': WHATEVER THE INPUT: true; the input reads as it did. -/
def holdFallsSpec : ChangeSpec := { name := "holdFalls", fn := fun _ => fun
  | [d1, d2, d3] => { results := [.lit (.bool true)], args := [d1, d2, d3] }
  | _ => none }
def holdFallsRow : OpenClaim := { program := "ytnelmicecaggoaa", sum := "2d9a0411a34ef5058f73ff180059b6ebc4d557ddf153e85031c3b47ea7250f24", func := "refectory/refectorylaw20.HoldFalls", spec := "holdFalls", unfollowed := true, recurses := true, apart := false }
def HoldFallsSaid : Prop := holdFallsRow.holds Try.pinned (OpenSpec.ofChange holdFallsSpec)

/-- ITS FALSE NEIGHBOUR: 'it returns false'. Refute it at one input. -/
def holdFallsWrong : ChangeSpec := { name := "holdFalls", fn := fun _ => fun
  | [d1, d2, d3] => { results := [.lit (.bool false)], args := [d1, d2, d3] }
  | _ => none }
def HoldFallsWrongFalsely : Prop := holdFallsRow.holds Try.pinned (OpenSpec.ofChange holdFallsWrong)

/-- 'refectorylaw20.HoldAsks': WHATEVER THE INPUT: true; the input reads as it did. -/
def holdAsksSpec : ChangeSpec := { name := "holdAsks", fn := fun _ => fun
  | [d1, d2, d3, d4, d5] => { results := [.lit (.bool true)], args := [d1, d2, d3, d4, d5] }
  | _ => none }
def holdAsksRow : OpenClaim := { program := "ytnelmicecaggoaa", sum := "2d9a0411a34ef5058f73ff180059b6ebc4d557ddf153e85031c3b47ea7250f24", func := "refectory/refectorylaw20.HoldAsks", spec := "holdAsks", unfollowed := true, recurses := true, apart := false }
def HoldAsksSaid : Prop := holdAsksRow.holds Try.pinned (OpenSpec.ofChange holdAsksSpec)

/-- ITS FALSE NEIGHBOUR: 'it returns false'. Refute it at one input. -/
def holdAsksWrong : ChangeSpec := { name := "holdAsks", fn := fun _ => fun
  | [d1, d2, d3, d4, d5] => { results := [.lit (.bool false)], args := [d1, d2, d3, d4, d5] }
  | _ => none }
def HoldAsksWrongFalsely : Prop := holdAsksRow.holds Try.pinned (OpenSpec.ofChange holdAsksWrong)

/-- 'refectorylaw20.HoldLate': WHATEVER THE INPUT: true; the input reads as it did. -/
def holdLateSpec : ChangeSpec := { name := "holdLate", fn := fun _ => fun
  | [d1, d2, d3] => { results := [.lit (.bool true)], args := [d1, d2, d3] }
  | _ => none }
def holdLateRow : OpenClaim := { program := "ytnelmicecaggoaa", sum := "2d9a0411a34ef5058f73ff180059b6ebc4d557ddf153e85031c3b47ea7250f24", func := "refectory/refectorylaw20.HoldLate", spec := "holdLate", unfollowed := true, recurses := true, apart := false }
def HoldLateSaid : Prop := holdLateRow.holds Try.pinned (OpenSpec.ofChange holdLateSpec)

/-- ITS FALSE NEIGHBOUR: 'it returns false'. Refute it at one input. -/
def holdLateWrong : ChangeSpec := { name := "holdLate", fn := fun _ => fun
  | [d1, d2, d3] => { results := [.lit (.bool false)], args := [d1, d2, d3] }
  | _ => none }
def HoldLateWrongFalsely : Prop := holdLateRow.holds Try.pinned (OpenSpec.ofChange holdLateWrong)

/-- 'refectorylaw20.HoldNil': WHATEVER THE INPUT: true; the input reads as it did. -/
def holdNilSpec : ChangeSpec := { name := "holdNil", fn := fun _ => fun
  | [d1, d2, d3, d4, d5] => { results := [.lit (.bool true)], args := [d1, d2, d3, d4, d5] }
  | _ => none }
def holdNilRow : OpenClaim := { program := "ytnelmicecaggoaa", sum := "2d9a0411a34ef5058f73ff180059b6ebc4d557ddf153e85031c3b47ea7250f24", func := "refectory/refectorylaw20.HoldNil", spec := "holdNil", unfollowed := true, recurses := true, apart := false }
def HoldNilSaid : Prop := holdNilRow.holds Try.pinned (OpenSpec.ofChange holdNilSpec)

/-- ITS FALSE NEIGHBOUR: 'it returns false'. Refute it at one input. -/
def holdNilWrong : ChangeSpec := { name := "holdNil", fn := fun _ => fun
  | [d1, d2, d3, d4, d5] => { results := [.lit (.bool false)], args := [d1, d2, d3, d4, d5] }
  | _ => none }
def HoldNilWrongFalsely : Prop := holdNilRow.holds Try.pinned (OpenSpec.ofChange holdNilWrong)

/- THE SECOND FORM. 'bulk': how many values and letters a reading holds, each counted each time it is reached (what is shared counts as often as it is met; a slice's spare places count too). A statement '..UptoSaid' is the law's where the arguments, and the package variables that the reading takes, are together of bulk at most 1048576: NARROWER than '..Said'. Prove '..Said' where nothing that the law and all that it calls make is longer than what came in: it says more and counts as full. Else prove '..UptoSaid'. A law counts once. -/
mutual
def uptoBulk {H : Type} : DataW H → Nat
  | .lit (.string bytes) => bytes.length + 1
  | .lit _ => 1
  | .nil => 1
  | .ptr d => uptoBulk d + 1
  | .slice elems spare => uptoBulkAll elems + uptoBulkAll spare + 1
  | .agg parts => uptoBulkAll parts + 1
  | .iface _ d => uptoBulk d + 1
  | .map entries => uptoBulkEntries entries + 1
  | .held _ => 1
def uptoBulkAll {H : Type} : List (DataW H) → Nat
  | [] => 0
  | d :: r => uptoBulk d + uptoBulkAll r
def uptoBulkEntries {H : Type} : List (Lit × DataW H) → Nat
  | [] => 0
  | x :: r => uptoBulkEntry x + uptoBulkEntries r
def uptoBulkEntry {H : Type} : Lit × DataW H → Nat
  | (.string bytes, d) => bytes.length + uptoBulk d + 1
  | (_, d) => uptoBulk d + 1
 end
def uptoSmall : (H : Type) → List (DataW H) → Bool := fun _ ds => decide (uptoBulkAll ds ≤ 1048576)
def OpenSpec.upto (s : _root_.Go.ChangeSpec) : _root_.Go.OpenSpec := { _root_.Go.OpenSpec.ofChange s with cond := some uptoSmall }

/-- 'refectorylaw20.HoldPlays', WHERE WHAT IT READS IS OF BULK AT MOST 1048576: true; the input reads as it did. -/
def holdPlaysUptoRow : OpenClaim := { program := "ytnelmicecaggoaa", sum := "2d9a0411a34ef5058f73ff180059b6ebc4d557ddf153e85031c3b47ea7250f24", func := "refectory/refectorylaw20.HoldPlays", spec := "holdPlays", unfollowed := true, recurses := true, apart := false, narrowed := true }
def HoldPlaysUptoSaid : Prop := holdPlaysUptoRow.holds Try.pinned (OpenSpec.upto holdPlaysSpec)

/-- 'refectorylaw20.HoldAlone', WHERE WHAT IT READS IS OF BULK AT MOST 1048576: true; the input reads as it did. -/
def holdAloneUptoRow : OpenClaim := { program := "ytnelmicecaggoaa", sum := "2d9a0411a34ef5058f73ff180059b6ebc4d557ddf153e85031c3b47ea7250f24", func := "refectory/refectorylaw20.HoldAlone", spec := "holdAlone", unfollowed := true, recurses := true, apart := false, narrowed := true }
def HoldAloneUptoSaid : Prop := holdAloneUptoRow.holds Try.pinned (OpenSpec.upto holdAloneSpec)

/-- 'refectorylaw20.HoldGoes', WHERE WHAT IT READS IS OF BULK AT MOST 1048576: true; the input reads as it did. -/
def holdGoesUptoRow : OpenClaim := { program := "ytnelmicecaggoaa", sum := "2d9a0411a34ef5058f73ff180059b6ebc4d557ddf153e85031c3b47ea7250f24", func := "refectory/refectorylaw20.HoldGoes", spec := "holdGoes", unfollowed := true, recurses := true, apart := false, narrowed := true }
def HoldGoesUptoSaid : Prop := holdGoesUptoRow.holds Try.pinned (OpenSpec.upto holdGoesSpec)

/-- 'refectorylaw20.HoldFresh', WHERE WHAT IT READS IS OF BULK AT MOST 1048576: true; the input reads as it did. -/
def holdFreshUptoRow : OpenClaim := { program := "ytnelmicecaggoaa", sum := "2d9a0411a34ef5058f73ff180059b6ebc4d557ddf153e85031c3b47ea7250f24", func := "refectory/refectorylaw20.HoldFresh", spec := "holdFresh", unfollowed := true, recurses := true, apart := false, narrowed := true }
def HoldFreshUptoSaid : Prop := holdFreshUptoRow.holds Try.pinned (OpenSpec.upto holdFreshSpec)

/-- 'refectorylaw20.HoldFalls', WHERE WHAT IT READS IS OF BULK AT MOST 1048576: true; the input reads as it did. -/
def holdFallsUptoRow : OpenClaim := { program := "ytnelmicecaggoaa", sum := "2d9a0411a34ef5058f73ff180059b6ebc4d557ddf153e85031c3b47ea7250f24", func := "refectory/refectorylaw20.HoldFalls", spec := "holdFalls", unfollowed := true, recurses := true, apart := false, narrowed := true }
def HoldFallsUptoSaid : Prop := holdFallsUptoRow.holds Try.pinned (OpenSpec.upto holdFallsSpec)

/-- 'refectorylaw20.HoldAsks', WHERE WHAT IT READS IS OF BULK AT MOST 1048576: true; the input reads as it did. -/
def holdAsksUptoRow : OpenClaim := { program := "ytnelmicecaggoaa", sum := "2d9a0411a34ef5058f73ff180059b6ebc4d557ddf153e85031c3b47ea7250f24", func := "refectory/refectorylaw20.HoldAsks", spec := "holdAsks", unfollowed := true, recurses := true, apart := false, narrowed := true }
def HoldAsksUptoSaid : Prop := holdAsksUptoRow.holds Try.pinned (OpenSpec.upto holdAsksSpec)

/-- 'refectorylaw20.HoldLate', WHERE WHAT IT READS IS OF BULK AT MOST 1048576: true; the input reads as it did. -/
def holdLateUptoRow : OpenClaim := { program := "ytnelmicecaggoaa", sum := "2d9a0411a34ef5058f73ff180059b6ebc4d557ddf153e85031c3b47ea7250f24", func := "refectory/refectorylaw20.HoldLate", spec := "holdLate", unfollowed := true, recurses := true, apart := false, narrowed := true }
def HoldLateUptoSaid : Prop := holdLateUptoRow.holds Try.pinned (OpenSpec.upto holdLateSpec)

/-- 'refectorylaw20.HoldNil', WHERE WHAT IT READS IS OF BULK AT MOST 1048576: true; the input reads as it did. -/
def holdNilUptoRow : OpenClaim := { program := "ytnelmicecaggoaa", sum := "2d9a0411a34ef5058f73ff180059b6ebc4d557ddf153e85031c3b47ea7250f24", func := "refectory/refectorylaw20.HoldNil", spec := "holdNil", unfollowed := true, recurses := true, apart := false, narrowed := true }
def HoldNilUptoSaid : Prop := holdNilUptoRow.holds Try.pinned (OpenSpec.upto holdNilSpec)

end Rows
end Go.Proofs.Ytnelmicecaggoaa
