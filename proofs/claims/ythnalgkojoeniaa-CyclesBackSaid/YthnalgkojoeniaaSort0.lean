/- slices.SortFunc of nothing: nothing turns. No condition. -/
import Derived.Test.YthnalgkojoeniaaGen
import Derived.Test.YthnalgkojoeniaaLaysN
import Derived.Shelf.SlSortCmp.NoneTotal
namespace Go.Proofs.Ythnalgkojoeniaa
theorem sort0 (p : Option Addr) (cap : Nat) (fv : Value) (w : World) : Calls Try.prog 28 #[.slice p 0 cap, fv] w fun e w' => e = .returned (.tuple #[]) ∧ w' = w := AnyF.slices_SortFunc_none Try.laysSortN p cap fv w
end Go.Proofs.Ythnalgkojoeniaa
