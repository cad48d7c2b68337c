/- The law FramesApart for any acts: the walk, short or long. -/
import Derived.Test.YtoldbaandkgmkaaFramesApartW
namespace Go.Proofs.Ytoldbaandkgmkaa
open Go.ChangeShapes Go.WideShapes Go.ChangeAt Go.RowKit
theorem apart_any (r p : Int) (hr0 : 0 ≤ r) (hr1 : r ≤ 255) (hp0 : 0 ≤ p) (hp1 : p ≤ 255) (a : Option Addr) (cap : Nat) (ps : List Act4) (w : World) (hP : Acts w a ps) :
    Calls Try.prog 3 #[.int .u8 r, .int .u8 p, .slice a ps.length cap] w fun e w' => e = .returned (.bool true) ∧ Below w.heap.size w w' := by
  by_cases hl : 200 < ps.length
  · exact apart_many r p a ps.length cap w hl hP.many
  · exact apart_walk r p hr0 hr1 hp0 hp1 a cap ps w (by omega) hP
end Go.Proofs.Ytoldbaandkgmkaa
