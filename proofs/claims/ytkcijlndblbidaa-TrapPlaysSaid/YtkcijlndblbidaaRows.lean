/-
  No cell of these rows narrows 'for every input' (looked for: loops, veiled, ifaces, maps, wideKeys, modest, calm, conditions, laid).
  DERIVED. THE GIVEN ROWS OF THIS SEAT. 13 by the template 'for every input the law returns true; each argument reads behind the call as it read before'; 0 by the template 'total and deterministic' (their statements: YtkcijlndblbidaaTotals.lean).
  GIVEN WITH THE SEED: the statements are not yours to turn. If you find one false, say at which input.
  Laid BY PROGRAM, IN A SANDBOX (cutbox-rows.mjs): the forced cells as the released guide's own fill.sh prints them over the translation eb4a82838938fd8f… (all of the seat's roots in one cut). By AI agents, Wed Nov 11 2026. No macro, syntax, notation, axiom, sorry.
-/
import Derived.Test.YtkcijlndblbidaaChecked
import GoSem.Claim
import GoSem.ClaimJoined
import GoSem.ClaimMapViews
import Derived.JoinedTies
import Derived.KernelRfl
namespace Go.Proofs.Ytkcijlndblbidaa
/- THE CELL 'sum', in the pinned program and in every row, IS THE sha256 OF THE DUMP (.gsa) THAT YtkcijlndblbidaaProg.lean LOADS. Nothing in Lean hashes anything: it is a label: what it is worth is what the hold of that sum in a sandbox is worth. -/
noncomputable def Try.pinned : Pinned := { name := "ytkcijlndblbidaa", sum := "eb4a82838938fd8fc9d2dede1cc74fc4dfe8fd423b7688bc317b0c25d3619fad", checked := Try.checked }
namespace Rows
def none {H : Type} : Left H := { results := [], args := [] }

/-- 'ullagelaw09.VmemKeeps': WHATEVER THE INPUT: true; the input reads as it did. -/
def vmemKeepsSpec : ChangeSpec := { name := "vmemKeeps", fn := fun _ => fun
  | [d1, d2, d3] => { results := [.lit (.bool true)], args := [d1, d2, d3] }
  | _ => none }
def vmemKeepsRow : OpenClaim := { program := "ytkcijlndblbidaa", sum := "eb4a82838938fd8fc9d2dede1cc74fc4dfe8fd423b7688bc317b0c25d3619fad", func := "ullage/ullagelaw09.VmemKeeps", spec := "vmemKeeps", unfollowed := true, recurses := true, apart := false }
def VmemKeepsSaid : Prop := vmemKeepsRow.holds Try.pinned (OpenSpec.ofChange vmemKeepsSpec)

/-- ITS FALSE NEIGHBOUR: 'it returns false'. Refute it at one input. -/
def vmemKeepsWrong : ChangeSpec := { name := "vmemKeeps", fn := fun _ => fun
  | [d1, d2, d3] => { results := [.lit (.bool false)], args := [d1, d2, d3] }
  | _ => none }
def VmemKeepsWrongFalsely : Prop := vmemKeepsRow.holds Try.pinned (OpenSpec.ofChange vmemKeepsWrong)

/-- 'ullagelaw09.VmemNobody': WHATEVER THE INPUT: true; the input reads as it did. -/
def vmemNobodySpec : ChangeSpec := { name := "vmemNobody", fn := fun _ => fun
  | [d1, d2, d3] => { results := [.lit (.bool true)], args := [d1, d2, d3] }
  | _ => none }
def vmemNobodyRow : OpenClaim := { program := "ytkcijlndblbidaa", sum := "eb4a82838938fd8fc9d2dede1cc74fc4dfe8fd423b7688bc317b0c25d3619fad", func := "ullage/ullagelaw09.VmemNobody", spec := "vmemNobody", unfollowed := true, recurses := true, apart := false }
def VmemNobodySaid : Prop := vmemNobodyRow.holds Try.pinned (OpenSpec.ofChange vmemNobodySpec)

/-- ITS FALSE NEIGHBOUR: 'it returns false'. Refute it at one input. -/
def vmemNobodyWrong : ChangeSpec := { name := "vmemNobody", fn := fun _ => fun
  | [d1, d2, d3] => { results := [.lit (.bool false)], args := [d1, d2, d3] }
  | _ => none }
def VmemNobodyWrongFalsely : Prop := vmemNobodyRow.holds Try.pinned (OpenSpec.ofChange vmemNobodyWrong)

/-- 'ullagelaw16.BumpPieces': WHATEVER THE INPUT: true; the input reads as it did. -/
def bumpPiecesSpec : ChangeSpec := { name := "bumpPieces", fn := fun _ => fun
  | [d1, d2] => { results := [.lit (.bool true)], args := [d1, d2] }
  | _ => none }
def bumpPiecesRow : OpenClaim := { program := "ytkcijlndblbidaa", sum := "eb4a82838938fd8fc9d2dede1cc74fc4dfe8fd423b7688bc317b0c25d3619fad", func := "ullage/ullagelaw16.BumpPieces", spec := "bumpPieces", unfollowed := true, recurses := true, apart := false }
def BumpPiecesSaid : Prop := bumpPiecesRow.holds Try.pinned (OpenSpec.ofChange bumpPiecesSpec)

/-- ITS FALSE NEIGHBOUR: 'it returns false'. Refute it at one input. -/
def bumpPiecesWrong : ChangeSpec := { name := "bumpPieces", fn := fun _ => fun
  | [d1, d2] => { results := [.lit (.bool false)], args := [d1, d2] }
  | _ => none }
def BumpPiecesWrongFalsely : Prop := bumpPiecesRow.holds Try.pinned (OpenSpec.ofChange bumpPiecesWrong)

/-- 'ullagelaw16.BumpNobody': WHATEVER THE INPUT: true; the input reads as it did. -/
def bumpNobodySpec : ChangeSpec := { name := "bumpNobody", fn := fun _ => fun
  | [d1, d2] => { results := [.lit (.bool true)], args := [d1, d2] }
  | _ => none }
def bumpNobodyRow : OpenClaim := { program := "ytkcijlndblbidaa", sum := "eb4a82838938fd8fc9d2dede1cc74fc4dfe8fd423b7688bc317b0c25d3619fad", func := "ullage/ullagelaw16.BumpNobody", spec := "bumpNobody", unfollowed := true, recurses := true, apart := false }
def BumpNobodySaid : Prop := bumpNobodyRow.holds Try.pinned (OpenSpec.ofChange bumpNobodySpec)

/-- ITS FALSE NEIGHBOUR: 'it returns false'. Refute it at one input. -/
def bumpNobodyWrong : ChangeSpec := { name := "bumpNobody", fn := fun _ => fun
  | [d1, d2] => { results := [.lit (.bool false)], args := [d1, d2] }
  | _ => none }
def BumpNobodyWrongFalsely : Prop := bumpNobodyRow.holds Try.pinned (OpenSpec.ofChange bumpNobodyWrong)

/-- 'ullagelaw16.BumpPlays': WHATEVER THE INPUT: true; the input reads as it did. -/
def bumpPlaysSpec : ChangeSpec := { name := "bumpPlays", fn := fun _ => fun
  | [d1, d2, d3] => { results := [.lit (.bool true)], args := [d1, d2, d3] }
  | _ => none }
def bumpPlaysRow : OpenClaim := { program := "ytkcijlndblbidaa", sum := "eb4a82838938fd8fc9d2dede1cc74fc4dfe8fd423b7688bc317b0c25d3619fad", func := "ullage/ullagelaw16.BumpPlays", spec := "bumpPlays", unfollowed := true, recurses := true, apart := false }
def BumpPlaysSaid : Prop := bumpPlaysRow.holds Try.pinned (OpenSpec.ofChange bumpPlaysSpec)

/-- ITS FALSE NEIGHBOUR: 'it returns false'. Refute it at one input. -/
def bumpPlaysWrong : ChangeSpec := { name := "bumpPlays", fn := fun _ => fun
  | [d1, d2, d3] => { results := [.lit (.bool false)], args := [d1, d2, d3] }
  | _ => none }
def BumpPlaysWrongFalsely : Prop := bumpPlaysRow.holds Try.pinned (OpenSpec.ofChange bumpPlaysWrong)

/-- 'ullagelaw10.TrapPlays': WHATEVER THE INPUT: true; the input reads as it did. -/
def trapPlaysSpec : ChangeSpec := { name := "trapPlays", fn := fun _ => fun
  | [d1, d2] => { results := [.lit (.bool true)], args := [d1, d2] }
  | _ => none }
def trapPlaysRow : OpenClaim := { program := "ytkcijlndblbidaa", sum := "eb4a82838938fd8fc9d2dede1cc74fc4dfe8fd423b7688bc317b0c25d3619fad", func := "ullage/ullagelaw10.TrapPlays", spec := "trapPlays", unfollowed := true, recurses := true, apart := false }
def TrapPlaysSaid : Prop := trapPlaysRow.holds Try.pinned (OpenSpec.ofChange trapPlaysSpec)

/-- ITS FALSE NEIGHBOUR: 'it returns false'. Refute it at one input. -/
def trapPlaysWrong : ChangeSpec := { name := "trapPlays", fn := fun _ => fun
  | [d1, d2] => { results := [.lit (.bool false)], args := [d1, d2] }
  | _ => none }
def TrapPlaysWrongFalsely : Prop := trapPlaysRow.holds Try.pinned (OpenSpec.ofChange trapPlaysWrong)

/-- 'ullagelaw10.TrapUndoes': WHATEVER THE INPUT: true; the input reads as it did. -/
def trapUndoesSpec : ChangeSpec := { name := "trapUndoes", fn := fun _ => fun
  | [d1, d2, d3] => { results := [.lit (.bool true)], args := [d1, d2, d3] }
  | _ => none }
def trapUndoesRow : OpenClaim := { program := "ytkcijlndblbidaa", sum := "eb4a82838938fd8fc9d2dede1cc74fc4dfe8fd423b7688bc317b0c25d3619fad", func := "ullage/ullagelaw10.TrapUndoes", spec := "trapUndoes", unfollowed := true, recurses := true, apart := false }
def TrapUndoesSaid : Prop := trapUndoesRow.holds Try.pinned (OpenSpec.ofChange trapUndoesSpec)

/-- ITS FALSE NEIGHBOUR: 'it returns false'. Refute it at one input. -/
def trapUndoesWrong : ChangeSpec := { name := "trapUndoes", fn := fun _ => fun
  | [d1, d2, d3] => { results := [.lit (.bool false)], args := [d1, d2, d3] }
  | _ => none }
def TrapUndoesWrongFalsely : Prop := trapUndoesRow.holds Try.pinned (OpenSpec.ofChange trapUndoesWrong)

/-- 'ullagelaw10.TrapNobody': WHATEVER THE INPUT: true; the input reads as it did. -/
def trapNobodySpec : ChangeSpec := { name := "trapNobody", fn := fun _ => fun
  | [d1, d2] => { results := [.lit (.bool true)], args := [d1, d2] }
  | _ => none }
def trapNobodyRow : OpenClaim := { program := "ytkcijlndblbidaa", sum := "eb4a82838938fd8fc9d2dede1cc74fc4dfe8fd423b7688bc317b0c25d3619fad", func := "ullage/ullagelaw10.TrapNobody", spec := "trapNobody", unfollowed := true, recurses := true, apart := false }
def TrapNobodySaid : Prop := trapNobodyRow.holds Try.pinned (OpenSpec.ofChange trapNobodySpec)

/-- ITS FALSE NEIGHBOUR: 'it returns false'. Refute it at one input. -/
def trapNobodyWrong : ChangeSpec := { name := "trapNobody", fn := fun _ => fun
  | [d1, d2] => { results := [.lit (.bool false)], args := [d1, d2] }
  | _ => none }
def TrapNobodyWrongFalsely : Prop := trapNobodyRow.holds Try.pinned (OpenSpec.ofChange trapNobodyWrong)

/-- 'ullagelaw10.TrapOthers': WHATEVER THE INPUT: true; the input reads as it did. -/
def trapOthersSpec : ChangeSpec := { name := "trapOthers", fn := fun _ => fun
  | [d1, d2, d3] => { results := [.lit (.bool true)], args := [d1, d2, d3] }
  | _ => none }
def trapOthersRow : OpenClaim := { program := "ytkcijlndblbidaa", sum := "eb4a82838938fd8fc9d2dede1cc74fc4dfe8fd423b7688bc317b0c25d3619fad", func := "ullage/ullagelaw10.TrapOthers", spec := "trapOthers", unfollowed := true, recurses := true, apart := false }
def TrapOthersSaid : Prop := trapOthersRow.holds Try.pinned (OpenSpec.ofChange trapOthersSpec)

/-- ITS FALSE NEIGHBOUR: 'it returns false'. Refute it at one input. -/
def trapOthersWrong : ChangeSpec := { name := "trapOthers", fn := fun _ => fun
  | [d1, d2, d3] => { results := [.lit (.bool false)], args := [d1, d2, d3] }
  | _ => none }
def TrapOthersWrongFalsely : Prop := trapOthersRow.holds Try.pinned (OpenSpec.ofChange trapOthersWrong)

/-- 'ullagelaw15.ObjectPlays': WHATEVER THE INPUT: true; the input reads as it did. -/
def objectPlaysSpec : ChangeSpec := { name := "objectPlays", fn := fun _ => fun
  | [d1, d2] => { results := [.lit (.bool true)], args := [d1, d2] }
  | _ => none }
def objectPlaysRow : OpenClaim := { program := "ytkcijlndblbidaa", sum := "eb4a82838938fd8fc9d2dede1cc74fc4dfe8fd423b7688bc317b0c25d3619fad", func := "ullage/ullagelaw15.ObjectPlays", spec := "objectPlays", inPlace := ["math.Float64frombits", "math.Float64bits"], unfollowed := true, recurses := true, apart := false }
def ObjectPlaysSaid : Prop := objectPlaysRow.holds Try.pinned (OpenSpec.ofChange objectPlaysSpec)

/-- ITS FALSE NEIGHBOUR: 'it returns false'. Refute it at one input. -/
def objectPlaysWrong : ChangeSpec := { name := "objectPlays", fn := fun _ => fun
  | [d1, d2] => { results := [.lit (.bool false)], args := [d1, d2] }
  | _ => none }
def ObjectPlaysWrongFalsely : Prop := objectPlaysRow.holds Try.pinned (OpenSpec.ofChange objectPlaysWrong)

/-- 'ullagelaw15.ObjectBack': WHATEVER THE INPUT: true; the input reads as it did. -/
def objectBackSpec : ChangeSpec := { name := "objectBack", fn := fun _ => fun
  | [d1, d2, d3] => { results := [.lit (.bool true)], args := [d1, d2, d3] }
  | _ => none }
def objectBackRow : OpenClaim := { program := "ytkcijlndblbidaa", sum := "eb4a82838938fd8fc9d2dede1cc74fc4dfe8fd423b7688bc317b0c25d3619fad", func := "ullage/ullagelaw15.ObjectBack", spec := "objectBack", inPlace := ["math.Float64frombits", "math.Float64bits"], unfollowed := true, recurses := true, apart := false }
def ObjectBackSaid : Prop := objectBackRow.holds Try.pinned (OpenSpec.ofChange objectBackSpec)

/-- ITS FALSE NEIGHBOUR: 'it returns false'. Refute it at one input. -/
def objectBackWrong : ChangeSpec := { name := "objectBack", fn := fun _ => fun
  | [d1, d2, d3] => { results := [.lit (.bool false)], args := [d1, d2, d3] }
  | _ => none }
def ObjectBackWrongFalsely : Prop := objectBackRow.holds Try.pinned (OpenSpec.ofChange objectBackWrong)

/-- 'ullagelaw18.WalkSizes': WHATEVER THE INPUT: true; the input reads as it did. -/
def walkSizesSpec : ChangeSpec := { name := "walkSizes", fn := fun _ => fun
  | [d] => { results := [.lit (.bool true)], args := [d] }
  | _ => none }
def walkSizesRow : OpenClaim := { program := "ytkcijlndblbidaa", sum := "eb4a82838938fd8fc9d2dede1cc74fc4dfe8fd423b7688bc317b0c25d3619fad", func := "ullage/ullagelaw18.WalkSizes", spec := "walkSizes", unfollowed := true, recurses := true, apart := false }
def WalkSizesSaid : Prop := walkSizesRow.holds Try.pinned (OpenSpec.ofChange walkSizesSpec)

/-- ITS FALSE NEIGHBOUR: 'it returns false'. Refute it at one input. -/
def walkSizesWrong : ChangeSpec := { name := "walkSizes", fn := fun _ => fun
  | [d] => { results := [.lit (.bool false)], args := [d] }
  | _ => none }
def WalkSizesWrongFalsely : Prop := walkSizesRow.holds Try.pinned (OpenSpec.ofChange walkSizesWrong)

/-- 'ullagelaw18.WalkTells': WHATEVER THE INPUT: true; the input reads as it did. -/
def walkTellsSpec : ChangeSpec := { name := "walkTells", fn := fun _ => fun
  | [d1, d2, d3] => { results := [.lit (.bool true)], args := [d1, d2, d3] }
  | _ => none }
def walkTellsRow : OpenClaim := { program := "ytkcijlndblbidaa", sum := "eb4a82838938fd8fc9d2dede1cc74fc4dfe8fd423b7688bc317b0c25d3619fad", func := "ullage/ullagelaw18.WalkTells", spec := "walkTells", unfollowed := true, recurses := true, apart := false }
def WalkTellsSaid : Prop := walkTellsRow.holds Try.pinned (OpenSpec.ofChange walkTellsSpec)

/-- ITS FALSE NEIGHBOUR: 'it returns false'. Refute it at one input. -/
def walkTellsWrong : ChangeSpec := { name := "walkTells", fn := fun _ => fun
  | [d1, d2, d3] => { results := [.lit (.bool false)], args := [d1, d2, d3] }
  | _ => none }
def WalkTellsWrongFalsely : Prop := walkTellsRow.holds Try.pinned (OpenSpec.ofChange walkTellsWrong)

/- THE SECOND FORM. 'bulk': how many values and letters a reading holds, each counted each time it is reached (what is shared counts as often as it is met; a slice's spare places count too). A statement '..UptoSaid' is the law's where the arguments, and the package variables that the reading takes, are together of bulk at most 1048576: NARROWER than '..Said'. Prove '..Said' where nothing that the law and all that it calls make is longer than what came in: it says more and counts as full. Else prove '..UptoSaid'. A law counts once. -/
mutual
def uptoBulk {H : Type} : DataW H → Nat
  | .lit (.string bytes) => bytes.length + 1
  | .lit _ => 1
  | .nil => 1
  | .ptr d => uptoBulk d + 1
  | .slice elems spare => uptoBulkAll elems + uptoBulkAll spare + 1
  | .agg parts => uptoBulkAll parts + 1
  | .iface _ d => uptoBulk d + 1
  | .map entries => uptoBulkEntries entries + 1
  | .held _ => 1
def uptoBulkAll {H : Type} : List (DataW H) → Nat
  | [] => 0
  | d :: r => uptoBulk d + uptoBulkAll r
def uptoBulkEntries {H : Type} : List (Lit × DataW H) → Nat
  | [] => 0
  | x :: r => uptoBulkEntry x + uptoBulkEntries r
def uptoBulkEntry {H : Type} : Lit × DataW H → Nat
  | (.string bytes, d) => bytes.length + uptoBulk d + 1
  | (_, d) => uptoBulk d + 1
 end
def uptoSmall : (H : Type) → List (DataW H) → Bool := fun _ ds => decide (uptoBulkAll ds ≤ 1048576)
def OpenSpec.upto (s : _root_.Go.ChangeSpec) : _root_.Go.OpenSpec := { _root_.Go.OpenSpec.ofChange s with cond := some uptoSmall }

/-- 'ullagelaw09.VmemKeeps', WHERE WHAT IT READS IS OF BULK AT MOST 1048576: true; the input reads as it did. -/
def vmemKeepsUptoRow : OpenClaim := { program := "ytkcijlndblbidaa", sum := "eb4a82838938fd8fc9d2dede1cc74fc4dfe8fd423b7688bc317b0c25d3619fad", func := "ullage/ullagelaw09.VmemKeeps", spec := "vmemKeeps", unfollowed := true, recurses := true, apart := false, narrowed := true }
def VmemKeepsUptoSaid : Prop := vmemKeepsUptoRow.holds Try.pinned (OpenSpec.upto vmemKeepsSpec)

/-- 'ullagelaw09.VmemNobody', WHERE WHAT IT READS IS OF BULK AT MOST 1048576: true; the input reads as it did. -/
def vmemNobodyUptoRow : OpenClaim := { program := "ytkcijlndblbidaa", sum := "eb4a82838938fd8fc9d2dede1cc74fc4dfe8fd423b7688bc317b0c25d3619fad", func := "ullage/ullagelaw09.VmemNobody", spec := "vmemNobody", unfollowed := true, recurses := true, apart := false, narrowed := true }
def VmemNobodyUptoSaid : Prop := vmemNobodyUptoRow.holds Try.pinned (OpenSpec.upto vmemNobodySpec)

/-- 'ullagelaw16.BumpPieces', WHERE WHAT IT READS IS OF BULK AT MOST 1048576: true; the input reads as it did. -/
def bumpPiecesUptoRow : OpenClaim := { program := "ytkcijlndblbidaa", sum := "eb4a82838938fd8fc9d2dede1cc74fc4dfe8fd423b7688bc317b0c25d3619fad", func := "ullage/ullagelaw16.BumpPieces", spec := "bumpPieces", unfollowed := true, recurses := true, apart := false, narrowed := true }
def BumpPiecesUptoSaid : Prop := bumpPiecesUptoRow.holds Try.pinned (OpenSpec.upto bumpPiecesSpec)

/-- 'ullagelaw16.BumpNobody', WHERE WHAT IT READS IS OF BULK AT MOST 1048576: true; the input reads as it did. -/
def bumpNobodyUptoRow : OpenClaim := { program := "ytkcijlndblbidaa", sum := "eb4a82838938fd8fc9d2dede1cc74fc4dfe8fd423b7688bc317b0c25d3619fad", func := "ullage/ullagelaw16.BumpNobody", spec := "bumpNobody", unfollowed := true, recurses := true, apart := false, narrowed := true }
def BumpNobodyUptoSaid : Prop := bumpNobodyUptoRow.holds Try.pinned (OpenSpec.upto bumpNobodySpec)

/-- 'ullagelaw16.BumpPlays', WHERE WHAT IT READS IS OF BULK AT MOST 1048576: true; the input reads as it did. -/
def bumpPlaysUptoRow : OpenClaim := { program := "ytkcijlndblbidaa", sum := "eb4a82838938fd8fc9d2dede1cc74fc4dfe8fd423b7688bc317b0c25d3619fad", func := "ullage/ullagelaw16.BumpPlays", spec := "bumpPlays", unfollowed := true, recurses := true, apart := false, narrowed := true }
def BumpPlaysUptoSaid : Prop := bumpPlaysUptoRow.holds Try.pinned (OpenSpec.upto bumpPlaysSpec)

/-- 'ullagelaw10.TrapPlays', WHERE WHAT IT READS IS OF BULK AT MOST 1048576: true; the input reads as it did. -/
def trapPlaysUptoRow : OpenClaim := { program := "ytkcijlndblbidaa", sum := "eb4a82838938fd8fc9d2dede1cc74fc4dfe8fd423b7688bc317b0c25d3619fad", func := "ullage/ullagelaw10.TrapPlays", spec := "trapPlays", unfollowed := true, recurses := true, apart := false, narrowed := true }
def TrapPlaysUptoSaid : Prop := trapPlaysUptoRow.holds Try.pinned (OpenSpec.upto trapPlaysSpec)

/-- 'ullagelaw10.TrapUndoes', WHERE WHAT IT READS IS OF BULK AT MOST 1048576: true; the input reads as it did. -/
def trapUndoesUptoRow : OpenClaim := { program := "ytkcijlndblbidaa", sum := "eb4a82838938fd8fc9d2dede1cc74fc4dfe8fd423b7688bc317b0c25d3619fad", func := "ullage/ullagelaw10.TrapUndoes", spec := "trapUndoes", unfollowed := true, recurses := true, apart := false, narrowed := true }
def TrapUndoesUptoSaid : Prop := trapUndoesUptoRow.holds Try.pinned (OpenSpec.upto trapUndoesSpec)

/-- 'ullagelaw10.TrapNobody', WHERE WHAT IT READS IS OF BULK AT MOST 1048576: true; the input reads as it did. -/
def trapNobodyUptoRow : OpenClaim := { program := "ytkcijlndblbidaa", sum := "eb4a82838938fd8fc9d2dede1cc74fc4dfe8fd423b7688bc317b0c25d3619fad", func := "ullage/ullagelaw10.TrapNobody", spec := "trapNobody", unfollowed := true, recurses := true, apart := false, narrowed := true }
def TrapNobodyUptoSaid : Prop := trapNobodyUptoRow.holds Try.pinned (OpenSpec.upto trapNobodySpec)

/-- 'ullagelaw10.TrapOthers', WHERE WHAT IT READS IS OF BULK AT MOST 1048576: true; the input reads as it did. -/
def trapOthersUptoRow : OpenClaim := { program := "ytkcijlndblbidaa", sum := "eb4a82838938fd8fc9d2dede1cc74fc4dfe8fd423b7688bc317b0c25d3619fad", func := "ullage/ullagelaw10.TrapOthers", spec := "trapOthers", unfollowed := true, recurses := true, apart := false, narrowed := true }
def TrapOthersUptoSaid : Prop := trapOthersUptoRow.holds Try.pinned (OpenSpec.upto trapOthersSpec)

/-- 'ullagelaw15.ObjectPlays', WHERE WHAT IT READS IS OF BULK AT MOST 1048576: true; the input reads as it did. -/
def objectPlaysUptoRow : OpenClaim := { program := "ytkcijlndblbidaa", sum := "eb4a82838938fd8fc9d2dede1cc74fc4dfe8fd423b7688bc317b0c25d3619fad", func := "ullage/ullagelaw15.ObjectPlays", spec := "objectPlays", inPlace := ["math.Float64frombits", "math.Float64bits"], unfollowed := true, recurses := true, apart := false, narrowed := true }
def ObjectPlaysUptoSaid : Prop := objectPlaysUptoRow.holds Try.pinned (OpenSpec.upto objectPlaysSpec)

/-- 'ullagelaw15.ObjectBack', WHERE WHAT IT READS IS OF BULK AT MOST 1048576: true; the input reads as it did. -/
def objectBackUptoRow : OpenClaim := { program := "ytkcijlndblbidaa", sum := "eb4a82838938fd8fc9d2dede1cc74fc4dfe8fd423b7688bc317b0c25d3619fad", func := "ullage/ullagelaw15.ObjectBack", spec := "objectBack", inPlace := ["math.Float64frombits", "math.Float64bits"], unfollowed := true, recurses := true, apart := false, narrowed := true }
def ObjectBackUptoSaid : Prop := objectBackUptoRow.holds Try.pinned (OpenSpec.upto objectBackSpec)

/-- 'ullagelaw18.WalkSizes', WHERE WHAT IT READS IS OF BULK AT MOST 1048576: true; the input reads as it did. -/
def walkSizesUptoRow : OpenClaim := { program := "ytkcijlndblbidaa", sum := "eb4a82838938fd8fc9d2dede1cc74fc4dfe8fd423b7688bc317b0c25d3619fad", func := "ullage/ullagelaw18.WalkSizes", spec := "walkSizes", unfollowed := true, recurses := true, apart := false, narrowed := true }
def WalkSizesUptoSaid : Prop := walkSizesUptoRow.holds Try.pinned (OpenSpec.upto walkSizesSpec)

/-- 'ullagelaw18.WalkTells', WHERE WHAT IT READS IS OF BULK AT MOST 1048576: true; the input reads as it did. -/
def walkTellsUptoRow : OpenClaim := { program := "ytkcijlndblbidaa", sum := "eb4a82838938fd8fc9d2dede1cc74fc4dfe8fd423b7688bc317b0c25d3619fad", func := "ullage/ullagelaw18.WalkTells", spec := "walkTells", unfollowed := true, recurses := true, apart := false, narrowed := true }
def WalkTellsUptoSaid : Prop := walkTellsUptoRow.holds Try.pinned (OpenSpec.upto walkTellsSpec)

end Rows
end Go.Proofs.Ytkcijlndblbidaa
