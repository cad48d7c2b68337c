/- A map of pages as it lies in memory. -/
import Derived.Test.YtkcijlndblbidaaKit
import Derived.RegionTactic
import Derived.Laws.MakeOwn
import Derived.Laws.OwnMore
namespace Go.Proofs.Ytkcijlndblbidaa.Pg
open Go.ChangeShapes Go.WideShapes Go.ChangeAt Go.RowKit

/-- how many of a table's pages have a frame (F: page to frame and one; i: the table) -/
def cntF (F : Nat → Nat) (i : Nat) : Nat → Nat
  | 0 => 0
  | j + 1 => cntF F i j + if F (i * 256 + j) = 0 then 0 else 1
/-- a table's cells -/
def tcells (F : Nat → Nat) (i : Nat) : Array Value := ((List.range 256).map fun j => Value.int .u32 (F (i * 256 + j))).toArray.push (.int .i64 (cntF F i 256))
def ptr (o : Option Nat) : Value := .pointer (o.map fun k => ⟨k, 0, none⟩)
/-- how many of all tables' pages have a frame -/
def sumF (F : Nat → Nat) : Nat → Nat
  | 0 => 0
  | i + 1 => sumF F i + cntF F i 256
structure PMap (b tb np : Nat) (ts : List (Option Nat)) (F : Nat → Nat) (w : World) : Prop where
  head : w.heap[b]? = some (.cells #[.slice (some ⟨tb, 0, none⟩) ts.length ts.length, .int .i64 np, .int .i64 (sumF F ts.length)] 209 (0, 0))
  row : w.heap[tb]? = some (.cells (ts.map ptr).toArray 228 (0, 0))
  many : ts.length * 256 ≤ 524288 + 255 ∧ np ≤ ts.length * 256
  none : ∀ i, i < ts.length → ts.getD i none = Option.none → ∀ j, j < 256 → F (i * 256 + j) = 0
  some : ∀ i k, i < ts.length → ts.getD i Option.none = Option.some k → w.heap[k]? = Option.some (.cells (tcells F i) 231 (0, 0)) ∧ 0 < cntF F i 256
  apart : ∀ i j k, i < ts.length → j < ts.length → ts.getD i Option.none = Option.some k → ts.getD j Option.none = Option.some k → i = j
  small : ∀ p, F p < 4294967296
end Go.Proofs.Ytkcijlndblbidaa.Pg
