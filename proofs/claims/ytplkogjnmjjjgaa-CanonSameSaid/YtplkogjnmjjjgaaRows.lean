/-
  No cell of these rows narrows 'for every input' (looked for: loops, veiled, ifaces, maps, wideKeys, modest, calm, conditions, laid).
  DERIVED. THE GIVEN ROWS OF THIS SEAT. 7 by the template 'for every input the law returns true; each argument reads behind the call as it read before'; 0 by the template 'total and deterministic' (their statements: YtplkogjnmjjjgaaTotals.lean).
  GIVEN WITH THE SEED: the statements are not yours to turn. If you find one false, say at which input.
  Laid BY PROGRAM, IN A SANDBOX (cutbox-rows.mjs): the forced cells as the released guide's own fill.sh prints them over the translation 316de41321c030e2… (all of the seat's roots in one cut). By AI agents, Wed Nov 11 2026. No macro, syntax, notation, axiom, sorry.
-/
import Derived.Test.YtplkogjnmjjjgaaChecked
import GoSem.Claim
import GoSem.ClaimJoined
import GoSem.ClaimMapViews
import Derived.JoinedTies
import Derived.KernelRfl
namespace Go.Proofs.Ytplkogjnmjjjgaa
/- THE CELL 'sum', in the pinned program and in every row, IS THE sha256 OF THE DUMP (.gsa) THAT YtplkogjnmjjjgaaProg.lean LOADS. Nothing in Lean hashes anything: it is a label: what it is worth is what the hold of that sum in a sandbox is worth. -/
noncomputable def Try.pinned : Pinned := { name := "ytplkogjnmjjjgaa", sum := "316de41321c030e20a5d77f0f6cd72182f94d94110857b12205a1295e8b9a54a", checked := Try.checked }
namespace Rows
def none {H : Type} : Left H := { results := [], args := [] }

/-- 'ullagelaw28.GraphTells': WHATEVER THE INPUT: true; the input reads as it did. -/
def graphTellsSpec : ChangeSpec := { name := "graphTells", fn := fun _ => fun
  | [d1, d2] => { results := [.lit (.bool true)], args := [d1, d2] }
  | _ => none }
def graphTellsRow : OpenClaim := { program := "ytplkogjnmjjjgaa", sum := "316de41321c030e20a5d77f0f6cd72182f94d94110857b12205a1295e8b9a54a", func := "ullage/ullagelaw28.GraphTells", spec := "graphTells", unfollowed := true, recurses := true, apart := false }
def GraphTellsSaid : Prop := graphTellsRow.holds Try.pinned (OpenSpec.ofChange graphTellsSpec)

/-- ITS FALSE NEIGHBOUR: 'it returns false'. Refute it at one input. -/
def graphTellsWrong : ChangeSpec := { name := "graphTells", fn := fun _ => fun
  | [d1, d2] => { results := [.lit (.bool false)], args := [d1, d2] }
  | _ => none }
def GraphTellsWrongFalsely : Prop := graphTellsRow.holds Try.pinned (OpenSpec.ofChange graphTellsWrong)

/-- 'ullagelaw28.GraphSame': WHATEVER THE INPUT: true; the input reads as it did. -/
def graphSameSpec : ChangeSpec := { name := "graphSame", fn := fun _ => fun
  | [d1, d2] => { results := [.lit (.bool true)], args := [d1, d2] }
  | _ => none }
def graphSameRow : OpenClaim := { program := "ytplkogjnmjjjgaa", sum := "316de41321c030e20a5d77f0f6cd72182f94d94110857b12205a1295e8b9a54a", func := "ullage/ullagelaw28.GraphSame", spec := "graphSame", unfollowed := true, recurses := true, apart := false }
def GraphSameSaid : Prop := graphSameRow.holds Try.pinned (OpenSpec.ofChange graphSameSpec)

/-- ITS FALSE NEIGHBOUR: 'it returns false'. Refute it at one input. -/
def graphSameWrong : ChangeSpec := { name := "graphSame", fn := fun _ => fun
  | [d1, d2] => { results := [.lit (.bool false)], args := [d1, d2] }
  | _ => none }
def GraphSameWrongFalsely : Prop := graphSameRow.holds Try.pinned (OpenSpec.ofChange graphSameWrong)

/-- 'ullagelaw28.GraphTrims': WHATEVER THE INPUT: true; the input reads as it did. -/
def graphTrimsSpec : ChangeSpec := { name := "graphTrims", fn := fun _ => fun
  | [d] => { results := [.lit (.bool true)], args := [d] }
  | _ => none }
def graphTrimsRow : OpenClaim := { program := "ytplkogjnmjjjgaa", sum := "316de41321c030e20a5d77f0f6cd72182f94d94110857b12205a1295e8b9a54a", func := "ullage/ullagelaw28.GraphTrims", spec := "graphTrims", unfollowed := true, recurses := true, apart := false }
def GraphTrimsSaid : Prop := graphTrimsRow.holds Try.pinned (OpenSpec.ofChange graphTrimsSpec)

/-- ITS FALSE NEIGHBOUR: 'it returns false'. Refute it at one input. -/
def graphTrimsWrong : ChangeSpec := { name := "graphTrims", fn := fun _ => fun
  | [d] => { results := [.lit (.bool false)], args := [d] }
  | _ => none }
def GraphTrimsWrongFalsely : Prop := graphTrimsRow.holds Try.pinned (OpenSpec.ofChange graphTrimsWrong)

/-- 'ullagelaw28.GraphTurns': WHATEVER THE INPUT: true; the input reads as it did. -/
def graphTurnsSpec : ChangeSpec := { name := "graphTurns", fn := fun _ => fun
  | [d1, d2, d3] => { results := [.lit (.bool true)], args := [d1, d2, d3] }
  | _ => none }
def graphTurnsRow : OpenClaim := { program := "ytplkogjnmjjjgaa", sum := "316de41321c030e20a5d77f0f6cd72182f94d94110857b12205a1295e8b9a54a", func := "ullage/ullagelaw28.GraphTurns", spec := "graphTurns", unfollowed := true, recurses := true, apart := false }
def GraphTurnsSaid : Prop := graphTurnsRow.holds Try.pinned (OpenSpec.ofChange graphTurnsSpec)

/-- ITS FALSE NEIGHBOUR: 'it returns false'. Refute it at one input. -/
def graphTurnsWrong : ChangeSpec := { name := "graphTurns", fn := fun _ => fun
  | [d1, d2, d3] => { results := [.lit (.bool false)], args := [d1, d2, d3] }
  | _ => none }
def GraphTurnsWrongFalsely : Prop := graphTurnsRow.holds Try.pinned (OpenSpec.ofChange graphTurnsWrong)

/-- 'ullagelaw29.CanonTakes': WHATEVER THE INPUT: true; the input reads as it did. -/
def canonTakesSpec : ChangeSpec := { name := "canonTakes", fn := fun _ => fun
  | [d1, d2] => { results := [.lit (.bool true)], args := [d1, d2] }
  | _ => none }
def canonTakesRow : OpenClaim := { program := "ytplkogjnmjjjgaa", sum := "316de41321c030e20a5d77f0f6cd72182f94d94110857b12205a1295e8b9a54a", func := "ullage/ullagelaw29.CanonTakes", spec := "canonTakes", inPlace := ["internal/abi.NoEscape", "math.Float64frombits", "math.Float64bits"], unfollowed := true, recurses := true, apart := false }
def CanonTakesSaid : Prop := canonTakesRow.holds Try.pinned (OpenSpec.ofChange canonTakesSpec)

/-- ITS FALSE NEIGHBOUR: 'it returns false'. Refute it at one input. -/
def canonTakesWrong : ChangeSpec := { name := "canonTakes", fn := fun _ => fun
  | [d1, d2] => { results := [.lit (.bool false)], args := [d1, d2] }
  | _ => none }
def CanonTakesWrongFalsely : Prop := canonTakesRow.holds Try.pinned (OpenSpec.ofChange canonTakesWrong)

/-- 'ullagelaw29.CanonSame': WHATEVER THE INPUT: true; the input reads as it did. -/
def canonSameSpec : ChangeSpec := { name := "canonSame", fn := fun _ => fun
  | [d1, d2] => { results := [.lit (.bool true)], args := [d1, d2] }
  | _ => none }
def canonSameRow : OpenClaim := { program := "ytplkogjnmjjjgaa", sum := "316de41321c030e20a5d77f0f6cd72182f94d94110857b12205a1295e8b9a54a", func := "ullage/ullagelaw29.CanonSame", spec := "canonSame", inPlace := ["internal/abi.NoEscape", "math.Float64frombits", "math.Float64bits"], unfollowed := true, recurses := true, apart := false }
def CanonSameSaid : Prop := canonSameRow.holds Try.pinned (OpenSpec.ofChange canonSameSpec)

/-- ITS FALSE NEIGHBOUR: 'it returns false'. Refute it at one input. -/
def canonSameWrong : ChangeSpec := { name := "canonSame", fn := fun _ => fun
  | [d1, d2] => { results := [.lit (.bool false)], args := [d1, d2] }
  | _ => none }
def CanonSameWrongFalsely : Prop := canonSameRow.holds Try.pinned (OpenSpec.ofChange canonSameWrong)

/-- 'ullagelaw29.CanonPuts': WHATEVER THE INPUT: true; the input reads as it did. -/
def canonPutsSpec : ChangeSpec := { name := "canonPuts", fn := fun _ => fun
  | [d] => { results := [.lit (.bool true)], args := [d] }
  | _ => none }
def canonPutsRow : OpenClaim := { program := "ytplkogjnmjjjgaa", sum := "316de41321c030e20a5d77f0f6cd72182f94d94110857b12205a1295e8b9a54a", func := "ullage/ullagelaw29.CanonPuts", spec := "canonPuts", inPlace := ["internal/abi.NoEscape", "math.Float64frombits", "math.Float64bits"], unfollowed := true, recurses := true, apart := false }
def CanonPutsSaid : Prop := canonPutsRow.holds Try.pinned (OpenSpec.ofChange canonPutsSpec)

/-- ITS FALSE NEIGHBOUR: 'it returns false'. Refute it at one input. -/
def canonPutsWrong : ChangeSpec := { name := "canonPuts", fn := fun _ => fun
  | [d] => { results := [.lit (.bool false)], args := [d] }
  | _ => none }
def CanonPutsWrongFalsely : Prop := canonPutsRow.holds Try.pinned (OpenSpec.ofChange canonPutsWrong)

/- THE SECOND FORM. 'bulk': how many values and letters a reading holds, each counted each time it is reached (what is shared counts as often as it is met; a slice's spare places count too). A statement '..UptoSaid' is the law's where the arguments, and the package variables that the reading takes, are together of bulk at most 1048576: NARROWER than '..Said'. Prove '..Said' where nothing that the law and all that it calls make is longer than what came in: it says more and counts as full. Else prove '..UptoSaid'. A law counts once. -/
mutual
def uptoBulk {H : Type} : DataW H → Nat
  | .lit (.string bytes) => bytes.length + 1
  | .lit _ => 1
  | .nil => 1
  | .ptr d => uptoBulk d + 1
  | .slice elems spare => uptoBulkAll elems + uptoBulkAll spare + 1
  | .agg parts => uptoBulkAll parts + 1
  | .iface _ d => uptoBulk d + 1
  | .map entries => uptoBulkEntries entries + 1
  | .held _ => 1
def uptoBulkAll {H : Type} : List (DataW H) → Nat
  | [] => 0
  | d :: r => uptoBulk d + uptoBulkAll r
def uptoBulkEntries {H : Type} : List (Lit × DataW H) → Nat
  | [] => 0
  | x :: r => uptoBulkEntry x + uptoBulkEntries r
def uptoBulkEntry {H : Type} : Lit × DataW H → Nat
  | (.string bytes, d) => bytes.length + uptoBulk d + 1
  | (_, d) => uptoBulk d + 1
 end
def uptoSmall : (H : Type) → List (DataW H) → Bool := fun _ ds => decide (uptoBulkAll ds ≤ 1048576)
def OpenSpec.upto (s : _root_.Go.ChangeSpec) : _root_.Go.OpenSpec := { _root_.Go.OpenSpec.ofChange s with cond := some uptoSmall }

/-- 'ullagelaw28.GraphTells', WHERE WHAT IT READS IS OF BULK AT MOST 1048576: true; the input reads as it did. -/
def graphTellsUptoRow : OpenClaim := { program := "ytplkogjnmjjjgaa", sum := "316de41321c030e20a5d77f0f6cd72182f94d94110857b12205a1295e8b9a54a", func := "ullage/ullagelaw28.GraphTells", spec := "graphTells", unfollowed := true, recurses := true, apart := false, narrowed := true }
def GraphTellsUptoSaid : Prop := graphTellsUptoRow.holds Try.pinned (OpenSpec.upto graphTellsSpec)

/-- 'ullagelaw28.GraphSame', WHERE WHAT IT READS IS OF BULK AT MOST 1048576: true; the input reads as it did. -/
def graphSameUptoRow : OpenClaim := { program := "ytplkogjnmjjjgaa", sum := "316de41321c030e20a5d77f0f6cd72182f94d94110857b12205a1295e8b9a54a", func := "ullage/ullagelaw28.GraphSame", spec := "graphSame", unfollowed := true, recurses := true, apart := false, narrowed := true }
def GraphSameUptoSaid : Prop := graphSameUptoRow.holds Try.pinned (OpenSpec.upto graphSameSpec)

/-- 'ullagelaw28.GraphTrims', WHERE WHAT IT READS IS OF BULK AT MOST 1048576: true; the input reads as it did. -/
def graphTrimsUptoRow : OpenClaim := { program := "ytplkogjnmjjjgaa", sum := "316de41321c030e20a5d77f0f6cd72182f94d94110857b12205a1295e8b9a54a", func := "ullage/ullagelaw28.GraphTrims", spec := "graphTrims", unfollowed := true, recurses := true, apart := false, narrowed := true }
def GraphTrimsUptoSaid : Prop := graphTrimsUptoRow.holds Try.pinned (OpenSpec.upto graphTrimsSpec)

/-- 'ullagelaw28.GraphTurns', WHERE WHAT IT READS IS OF BULK AT MOST 1048576: true; the input reads as it did. -/
def graphTurnsUptoRow : OpenClaim := { program := "ytplkogjnmjjjgaa", sum := "316de41321c030e20a5d77f0f6cd72182f94d94110857b12205a1295e8b9a54a", func := "ullage/ullagelaw28.GraphTurns", spec := "graphTurns", unfollowed := true, recurses := true, apart := false, narrowed := true }
def GraphTurnsUptoSaid : Prop := graphTurnsUptoRow.holds Try.pinned (OpenSpec.upto graphTurnsSpec)

/-- 'ullagelaw29.CanonTakes', WHERE WHAT IT READS IS OF BULK AT MOST 1048576: true; the input reads as it did. -/
def canonTakesUptoRow : OpenClaim := { program := "ytplkogjnmjjjgaa", sum := "316de41321c030e20a5d77f0f6cd72182f94d94110857b12205a1295e8b9a54a", func := "ullage/ullagelaw29.CanonTakes", spec := "canonTakes", inPlace := ["internal/abi.NoEscape", "math.Float64frombits", "math.Float64bits"], unfollowed := true, recurses := true, apart := false, narrowed := true }
def CanonTakesUptoSaid : Prop := canonTakesUptoRow.holds Try.pinned (OpenSpec.upto canonTakesSpec)

/-- 'ullagelaw29.CanonSame', WHERE WHAT IT READS IS OF BULK AT MOST 1048576: true; the input reads as it did. -/
def canonSameUptoRow : OpenClaim := { program := "ytplkogjnmjjjgaa", sum := "316de41321c030e20a5d77f0f6cd72182f94d94110857b12205a1295e8b9a54a", func := "ullage/ullagelaw29.CanonSame", spec := "canonSame", inPlace := ["internal/abi.NoEscape", "math.Float64frombits", "math.Float64bits"], unfollowed := true, recurses := true, apart := false, narrowed := true }
def CanonSameUptoSaid : Prop := canonSameUptoRow.holds Try.pinned (OpenSpec.upto canonSameSpec)

/-- 'ullagelaw29.CanonPuts', WHERE WHAT IT READS IS OF BULK AT MOST 1048576: true; the input reads as it did. -/
def canonPutsUptoRow : OpenClaim := { program := "ytplkogjnmjjjgaa", sum := "316de41321c030e20a5d77f0f6cd72182f94d94110857b12205a1295e8b9a54a", func := "ullage/ullagelaw29.CanonPuts", spec := "canonPuts", inPlace := ["internal/abi.NoEscape", "math.Float64frombits", "math.Float64bits"], unfollowed := true, recurses := true, apart := false, narrowed := true }
def CanonPutsUptoSaid : Prop := canonPutsUptoRow.holds Try.pinned (OpenSpec.upto canonPutsSpec)

end Rows
end Go.Proofs.Ytplkogjnmjjjgaa
