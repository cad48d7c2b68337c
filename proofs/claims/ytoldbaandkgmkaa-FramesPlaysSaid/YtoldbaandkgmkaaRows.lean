/-
  No cell of these rows narrows 'for every input' (looked for: loops, veiled, ifaces, maps, wideKeys, modest, calm, conditions, laid).
  DERIVED. THE GIVEN ROWS OF THIS SEAT. 3 by the template 'for every input the law returns true; each argument reads behind the call as it read before'; 0 by the template 'total and deterministic' (their statements: YtoldbaandkgmkaaTotals.lean).
  GIVEN WITH THE SEED: the statements are not yours to turn. If you find one false, say at which input.
  Laid BY PROGRAM, IN A SANDBOX (cutbox-rows.mjs): the forced cells as the released guide's own fill.sh prints them over the translation dc6922cb0838a176… (all of the seat's roots in one cut). By AI agents, Wed Nov 11 2026. No macro, syntax, notation, axiom, sorry.
-/
import Derived.Test.YtoldbaandkgmkaaChecked
import GoSem.Claim
import GoSem.ClaimJoined
import GoSem.ClaimMapViews
import Derived.JoinedTies
import Derived.KernelRfl
namespace Go.Proofs.Ytoldbaandkgmkaa
/- THE CELL 'sum', in the pinned program and in every row, IS THE sha256 OF THE DUMP (.gsa) THAT YtoldbaandkgmkaaProg.lean LOADS. Nothing in Lean hashes anything: it is a label: what it is worth is what the hold of that sum in a sandbox is worth. -/
noncomputable def Try.pinned : Pinned := { name := "ytoldbaandkgmkaa", sum := "dc6922cb0838a17602d2d3e6e3d41386b3360dc07533be4edc9c96f16f503636", checked := Try.checked }
namespace Rows
def none {H : Type} : Left H := { results := [], args := [] }

/-- 'ullagelaw07.FramesApart': WHATEVER THE INPUT: true; the input reads as it did. -/
def framesApartSpec : ChangeSpec := { name := "framesApart", fn := fun _ => fun
  | [d1, d2, d3] => { results := [.lit (.bool true)], args := [d1, d2, d3] }
  | _ => none }
def framesApartRow : OpenClaim := { program := "ytoldbaandkgmkaa", sum := "dc6922cb0838a17602d2d3e6e3d41386b3360dc07533be4edc9c96f16f503636", func := "ullage/ullagelaw07.FramesApart", spec := "framesApart", apart := false }
def FramesApartSaid : Prop := framesApartRow.holds Try.pinned (OpenSpec.ofChange framesApartSpec)

/-- ITS FALSE NEIGHBOUR: 'it returns false'. Refute it at one input. -/
def framesApartWrong : ChangeSpec := { name := "framesApart", fn := fun _ => fun
  | [d1, d2, d3] => { results := [.lit (.bool false)], args := [d1, d2, d3] }
  | _ => none }
def FramesApartWrongFalsely : Prop := framesApartRow.holds Try.pinned (OpenSpec.ofChange framesApartWrong)

/-- 'ullagelaw07.FramesPlays': WHATEVER THE INPUT: true; the input reads as it did. -/
def framesPlaysSpec : ChangeSpec := { name := "framesPlays", fn := fun _ => fun
  | [d1, d2, d3] => { results := [.lit (.bool true)], args := [d1, d2, d3] }
  | _ => none }
def framesPlaysRow : OpenClaim := { program := "ytoldbaandkgmkaa", sum := "dc6922cb0838a17602d2d3e6e3d41386b3360dc07533be4edc9c96f16f503636", func := "ullage/ullagelaw07.FramesPlays", spec := "framesPlays", apart := false }
def FramesPlaysSaid : Prop := framesPlaysRow.holds Try.pinned (OpenSpec.ofChange framesPlaysSpec)

/-- ITS FALSE NEIGHBOUR: 'it returns false'. Refute it at one input. -/
def framesPlaysWrong : ChangeSpec := { name := "framesPlays", fn := fun _ => fun
  | [d1, d2, d3] => { results := [.lit (.bool false)], args := [d1, d2, d3] }
  | _ => none }
def FramesPlaysWrongFalsely : Prop := framesPlaysRow.holds Try.pinned (OpenSpec.ofChange framesPlaysWrong)

/-- 'ullagelaw07.FramesNobody': WHATEVER THE INPUT: true; the input reads as it did. -/
def framesNobodySpec : ChangeSpec := { name := "framesNobody", fn := fun _ => fun
  | [d1, d2, d3] => { results := [.lit (.bool true)], args := [d1, d2, d3] }
  | _ => none }
def framesNobodyRow : OpenClaim := { program := "ytoldbaandkgmkaa", sum := "dc6922cb0838a17602d2d3e6e3d41386b3360dc07533be4edc9c96f16f503636", func := "ullage/ullagelaw07.FramesNobody", spec := "framesNobody", apart := false }
def FramesNobodySaid : Prop := framesNobodyRow.holds Try.pinned (OpenSpec.ofChange framesNobodySpec)

/-- ITS FALSE NEIGHBOUR: 'it returns false'. Refute it at one input. -/
def framesNobodyWrong : ChangeSpec := { name := "framesNobody", fn := fun _ => fun
  | [d1, d2, d3] => { results := [.lit (.bool false)], args := [d1, d2, d3] }
  | _ => none }
def FramesNobodyWrongFalsely : Prop := framesNobodyRow.holds Try.pinned (OpenSpec.ofChange framesNobodyWrong)

/- THE SECOND FORM. 'bulk': how many values and letters a reading holds, each counted each time it is reached (what is shared counts as often as it is met; a slice's spare places count too). A statement '..UptoSaid' is the law's where the arguments, and the package variables that the reading takes, are together of bulk at most 1048576: NARROWER than '..Said'. Prove '..Said' where nothing that the law and all that it calls make is longer than what came in: it says more and counts as full. Else prove '..UptoSaid'. A law counts once. -/
mutual
def uptoBulk {H : Type} : DataW H → Nat
  | .lit (.string bytes) => bytes.length + 1
  | .lit _ => 1
  | .nil => 1
  | .ptr d => uptoBulk d + 1
  | .slice elems spare => uptoBulkAll elems + uptoBulkAll spare + 1
  | .agg parts => uptoBulkAll parts + 1
  | .iface _ d => uptoBulk d + 1
  | .map entries => uptoBulkEntries entries + 1
  | .held _ => 1
def uptoBulkAll {H : Type} : List (DataW H) → Nat
  | [] => 0
  | d :: r => uptoBulk d + uptoBulkAll r
def uptoBulkEntries {H : Type} : List (Lit × DataW H) → Nat
  | [] => 0
  | x :: r => uptoBulkEntry x + uptoBulkEntries r
def uptoBulkEntry {H : Type} : Lit × DataW H → Nat
  | (.string bytes, d) => bytes.length + uptoBulk d + 1
  | (_, d) => uptoBulk d + 1
 end
def uptoSmall : (H : Type) → List (DataW H) → Bool := fun _ ds => decide (uptoBulkAll ds ≤ 1048576)
def OpenSpec.upto (s : _root_.Go.ChangeSpec) : _root_.Go.OpenSpec := { _root_.Go.OpenSpec.ofChange s with cond := some uptoSmall }

/-- 'ullagelaw07.FramesApart', WHERE WHAT IT READS IS OF BULK AT MOST 1048576: true; the input reads as it did. -/
def framesApartUptoRow : OpenClaim := { program := "ytoldbaandkgmkaa", sum := "dc6922cb0838a17602d2d3e6e3d41386b3360dc07533be4edc9c96f16f503636", func := "ullage/ullagelaw07.FramesApart", spec := "framesApart", apart := false, narrowed := true }
def FramesApartUptoSaid : Prop := framesApartUptoRow.holds Try.pinned (OpenSpec.upto framesApartSpec)

/-- 'ullagelaw07.FramesPlays', WHERE WHAT IT READS IS OF BULK AT MOST 1048576: true; the input reads as it did. -/
def framesPlaysUptoRow : OpenClaim := { program := "ytoldbaandkgmkaa", sum := "dc6922cb0838a17602d2d3e6e3d41386b3360dc07533be4edc9c96f16f503636", func := "ullage/ullagelaw07.FramesPlays", spec := "framesPlays", apart := false, narrowed := true }
def FramesPlaysUptoSaid : Prop := framesPlaysUptoRow.holds Try.pinned (OpenSpec.upto framesPlaysSpec)

/-- 'ullagelaw07.FramesNobody', WHERE WHAT IT READS IS OF BULK AT MOST 1048576: true; the input reads as it did. -/
def framesNobodyUptoRow : OpenClaim := { program := "ytoldbaandkgmkaa", sum := "dc6922cb0838a17602d2d3e6e3d41386b3360dc07533be4edc9c96f16f503636", func := "ullage/ullagelaw07.FramesNobody", spec := "framesNobody", apart := false, narrowed := true }
def FramesNobodyUptoSaid : Prop := framesNobodyUptoRow.holds Try.pinned (OpenSpec.upto framesNobodySpec)

end Rows
end Go.Proofs.Ytoldbaandkgmkaa
