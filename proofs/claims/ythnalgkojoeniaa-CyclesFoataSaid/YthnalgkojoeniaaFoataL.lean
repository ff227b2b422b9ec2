/- CyclesFoata: the plain law: as many orders have so many rounds as have so many records. No condition but n to 6. -/
import Derived.Test.YthnalgkojoeniaaAt
import Derived.Test.YthnalgkojoeniaaCyclesOddW
set_option linter.unusedSimpArgs false
set_option linter.unusedVariables false
namespace Go.Proofs.Ythnalgkojoeniaa.cyclesFoata
open Go.RowKit Go.Proofs.Ythnalgkojoeniaa
def fct : Nat → Nat
  | 0 => 1
  | n + 1 => fct n * (n + 1)
def recStep (st : Nat × Int) (x : Int) : Nat × Int := if st.2 < x then (st.1 + 1, x) else st
def nr (n r : Nat) : Nat := ((atL n r).foldl recStep (0, -1)).1
def nc (n r : Nat) : Nat := cnt (nd (atL n r)) n
def okr (n r : Nat) : Bool := decide (rq r n = 0) && decide (OkP (atL n r)) && decide ((atL n r).length = n) && decide (nr n r ≤ n)
def tab (g : Nat → Nat) (r : Nat) : List Nat := (List.range r).map g
def chk (n : Nat) : Bool := (List.range (fct n)).all (okr n) && (List.range (n + 1)).all fun k => (tab (nc n) (fct n)).count k == (tab (nr n) (fct n)).count k
theorem all_ok {n : Nat} (hn : n ≤ 6) : chk n = true := by
  have : ((List.range 7).all chk) = true := by decide +kernel
  exact List.all_eq_true.1 this n (List.mem_range.2 (by omega))
end Go.Proofs.Ythnalgkojoeniaa.cyclesFoata
