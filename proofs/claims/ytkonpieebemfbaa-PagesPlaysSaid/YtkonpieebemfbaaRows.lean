/-
  No cell of these rows narrows 'for every input' (looked for: loops, veiled, ifaces, maps, wideKeys, modest, calm, conditions, laid).
  DERIVED. THE GIVEN ROWS OF THIS SEAT. 3 by the template 'for every input the law returns true; each argument reads behind the call as it read before'; 0 by the template 'total and deterministic' (their statements: YtkonpieebemfbaaTotals.lean).
  GIVEN WITH THE SEED: the statements are not yours to turn. If you find one false, say at which input.
  Laid BY PROGRAM, IN A SANDBOX (cutbox-rows.mjs): the forced cells as the released guide's own fill.sh prints them over the translation c85c44520e396fe2… (all of the seat's roots in one cut). By AI agents, Wed Nov 11 2026. No macro, syntax, notation, axiom, sorry.
-/
import Derived.Test.YtkonpieebemfbaaChecked
import GoSem.Claim
import GoSem.ClaimJoined
import GoSem.ClaimMapViews
import Derived.JoinedTies
import Derived.KernelRfl
namespace Go.Proofs.Ytkonpieebemfbaa
/- THE CELL 'sum', in the pinned program and in every row, IS THE sha256 OF THE DUMP (.gsa) THAT YtkonpieebemfbaaProg.lean LOADS. Nothing in Lean hashes anything: it is a label: what it is worth is what the hold of that sum in a sandbox is worth. -/
noncomputable def Try.pinned : Pinned := { name := "ytkonpieebemfbaa", sum := "c85c44520e396fe27f6486b381c87abbd59d58b3e4b070751e8a7a30e8f137ec", checked := Try.checked }
namespace Rows
def none {H : Type} : Left H := { results := [], args := [] }

/-- 'ullagelaw08.PagesStays': WHATEVER THE INPUT: true; the input reads as it did. -/
def pagesStaysSpec : ChangeSpec := { name := "pagesStays", fn := fun _ => fun
  | [d1, d2, d3] => { results := [.lit (.bool true)], args := [d1, d2, d3] }
  | _ => none }
def pagesStaysRow : OpenClaim := { program := "ytkonpieebemfbaa", sum := "c85c44520e396fe27f6486b381c87abbd59d58b3e4b070751e8a7a30e8f137ec", func := "ullage/ullagelaw08.PagesStays", spec := "pagesStays", apart := false }
def PagesStaysSaid : Prop := pagesStaysRow.holds Try.pinned (OpenSpec.ofChange pagesStaysSpec)

/-- ITS FALSE NEIGHBOUR: 'it returns false'. Refute it at one input. -/
def pagesStaysWrong : ChangeSpec := { name := "pagesStays", fn := fun _ => fun
  | [d1, d2, d3] => { results := [.lit (.bool false)], args := [d1, d2, d3] }
  | _ => none }
def PagesStaysWrongFalsely : Prop := pagesStaysRow.holds Try.pinned (OpenSpec.ofChange pagesStaysWrong)

/-- 'ullagelaw08.PagesPlays': WHATEVER THE INPUT: true; the input reads as it did. -/
def pagesPlaysSpec : ChangeSpec := { name := "pagesPlays", fn := fun _ => fun
  | [d1, d2] => { results := [.lit (.bool true)], args := [d1, d2] }
  | _ => none }
def pagesPlaysRow : OpenClaim := { program := "ytkonpieebemfbaa", sum := "c85c44520e396fe27f6486b381c87abbd59d58b3e4b070751e8a7a30e8f137ec", func := "ullage/ullagelaw08.PagesPlays", spec := "pagesPlays", apart := false }
def PagesPlaysSaid : Prop := pagesPlaysRow.holds Try.pinned (OpenSpec.ofChange pagesPlaysSpec)

/-- ITS FALSE NEIGHBOUR: 'it returns false'. Refute it at one input. -/
def pagesPlaysWrong : ChangeSpec := { name := "pagesPlays", fn := fun _ => fun
  | [d1, d2] => { results := [.lit (.bool false)], args := [d1, d2] }
  | _ => none }
def PagesPlaysWrongFalsely : Prop := pagesPlaysRow.holds Try.pinned (OpenSpec.ofChange pagesPlaysWrong)

/-- 'ullagelaw08.PagesNobody': WHATEVER THE INPUT: true; the input reads as it did. -/
def pagesNobodySpec : ChangeSpec := { name := "pagesNobody", fn := fun _ => fun
  | [d1, d2] => { results := [.lit (.bool true)], args := [d1, d2] }
  | _ => none }
def pagesNobodyRow : OpenClaim := { program := "ytkonpieebemfbaa", sum := "c85c44520e396fe27f6486b381c87abbd59d58b3e4b070751e8a7a30e8f137ec", func := "ullage/ullagelaw08.PagesNobody", spec := "pagesNobody", apart := false }
def PagesNobodySaid : Prop := pagesNobodyRow.holds Try.pinned (OpenSpec.ofChange pagesNobodySpec)

/-- ITS FALSE NEIGHBOUR: 'it returns false'. Refute it at one input. -/
def pagesNobodyWrong : ChangeSpec := { name := "pagesNobody", fn := fun _ => fun
  | [d1, d2] => { results := [.lit (.bool false)], args := [d1, d2] }
  | _ => none }
def PagesNobodyWrongFalsely : Prop := pagesNobodyRow.holds Try.pinned (OpenSpec.ofChange pagesNobodyWrong)

/- THE SECOND FORM. 'bulk': how many values and letters a reading holds, each counted each time it is reached (what is shared counts as often as it is met; a slice's spare places count too). A statement '..UptoSaid' is the law's where the arguments, and the package variables that the reading takes, are together of bulk at most 1048576: NARROWER than '..Said'. Prove '..Said' where nothing that the law and all that it calls make is longer than what came in: it says more and counts as full. Else prove '..UptoSaid'. A law counts once. -/
mutual
def uptoBulk {H : Type} : DataW H → Nat
  | .lit (.string bytes) => bytes.length + 1
  | .lit _ => 1
  | .nil => 1
  | .ptr d => uptoBulk d + 1
  | .slice elems spare => uptoBulkAll elems + uptoBulkAll spare + 1
  | .agg parts => uptoBulkAll parts + 1
  | .iface _ d => uptoBulk d + 1
  | .map entries => uptoBulkEntries entries + 1
  | .held _ => 1
def uptoBulkAll {H : Type} : List (DataW H) → Nat
  | [] => 0
  | d :: r => uptoBulk d + uptoBulkAll r
def uptoBulkEntries {H : Type} : List (Lit × DataW H) → Nat
  | [] => 0
  | x :: r => uptoBulkEntry x + uptoBulkEntries r
def uptoBulkEntry {H : Type} : Lit × DataW H → Nat
  | (.string bytes, d) => bytes.length + uptoBulk d + 1
  | (_, d) => uptoBulk d + 1
 end
def uptoSmall : (H : Type) → List (DataW H) → Bool := fun _ ds => decide (uptoBulkAll ds ≤ 1048576)
def OpenSpec.upto (s : _root_.Go.ChangeSpec) : _root_.Go.OpenSpec := { _root_.Go.OpenSpec.ofChange s with cond := some uptoSmall }

/-- 'ullagelaw08.PagesStays', WHERE WHAT IT READS IS OF BULK AT MOST 1048576: true; the input reads as it did. -/
def pagesStaysUptoRow : OpenClaim := { program := "ytkonpieebemfbaa", sum := "c85c44520e396fe27f6486b381c87abbd59d58b3e4b070751e8a7a30e8f137ec", func := "ullage/ullagelaw08.PagesStays", spec := "pagesStays", apart := false, narrowed := true }
def PagesStaysUptoSaid : Prop := pagesStaysUptoRow.holds Try.pinned (OpenSpec.upto pagesStaysSpec)

/-- 'ullagelaw08.PagesPlays', WHERE WHAT IT READS IS OF BULK AT MOST 1048576: true; the input reads as it did. -/
def pagesPlaysUptoRow : OpenClaim := { program := "ytkonpieebemfbaa", sum := "c85c44520e396fe27f6486b381c87abbd59d58b3e4b070751e8a7a30e8f137ec", func := "ullage/ullagelaw08.PagesPlays", spec := "pagesPlays", apart := false, narrowed := true }
def PagesPlaysUptoSaid : Prop := pagesPlaysUptoRow.holds Try.pinned (OpenSpec.upto pagesPlaysSpec)

/-- 'ullagelaw08.PagesNobody', WHERE WHAT IT READS IS OF BULK AT MOST 1048576: true; the input reads as it did. -/
def pagesNobodyUptoRow : OpenClaim := { program := "ytkonpieebemfbaa", sum := "c85c44520e396fe27f6486b381c87abbd59d58b3e4b070751e8a7a30e8f137ec", func := "ullage/ullagelaw08.PagesNobody", spec := "pagesNobody", apart := false, narrowed := true }
def PagesNobodyUptoSaid : Prop := pagesNobodyUptoRow.holds Try.pinned (OpenSpec.upto pagesNobodySpec)

end Rows
end Go.Proofs.Ytkonpieebemfbaa
