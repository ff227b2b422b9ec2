/- How often each choice comes of two pools, over all draws: plain. No condition. -/
import Derived.Test.YtkebahdapkjacaaMixed
import Derived.Test.YtkebahdapkjacaaEAll
set_option linter.unusedSimpArgs false
set_option linter.unusedVariables false
namespace Go.Proofs.Ytkebahdapkjacaa
open Go.RowKit
/-- How many a pool has when it is drawn from. -/
def ownsN : Nat → Nat → Nat → Nat → List Nat → List Nat
  | _, _, _, _, [] => []
  | l0, l1, h0, h1, d :: r => if l0 ≤ d then h1 :: ownsN l0 (l1 - 1) h0 (h1 - 1) r else h0 :: ownsN (l0 - 1) l1 (h0 - 1) h1 r
def prodN : List Nat → Nat
  | [] => 1
  | d :: r => d * prodN r
def basesJ (all k : Nat) : List Nat := (List.range k).map (all - ·)
def natsOf (l : List Int) : List Nat := l.map Int.toNat
/-- Which set comes out: of pools x of n, y of m, by the i-th draws of which, the j-th draws of who. -/
def runJ (room n m : Nat) (x y : List Int) (i j : Nat) : Option St :=
  prun (st0 n m x y) (castL (mixF i (basesJ (n + m) room))) (castL (mixF j (ownsN n m x.length y.length (mixF i (basesJ (n + m) room))))) room
def keyJ (room n m : Nat) (x y : List Int) (i j : Nat) : Nat :=
  match runJ room n m x y i j with
  | some t => setN (natsOf t.o) 0
  | none => 0
def manyJ (room n m : Nat) (x y : List Int) (i : Nat) : Nat := prodN (ownsN n m x.length y.length (mixF i (basesJ (n + m) room)))
def AJj (L : List (Nat × Nat)) (room n m : Nat) (x y : List Int) (i : Nat) : Nat → List (Nat × Nat)
  | 0 => L
  | j + 1 => bump (AJj L room n m x y i j) (keyJ room n m x y i j) (720720 / manyJ room n m x y i)
def AJi (L : List (Nat × Nat)) (room n m : Nat) (x y : List Int) : Nat → List (Nat × Nat)
  | 0 => L
  | i + 1 => AJj (AJi L room n m x y i) room n m x y i (manyJ room n m x y i)
/-- What the second pool has: those behind the first one's. -/
def shiftJ (n : Nat) (y : List Int) : List Int := y.map ((n : Int) + ·)
def AJy (L : List (Nat × Nat)) (room n m : Nat) (x : List Int) (ys : List (List Int)) : Nat → List (Nat × Nat)
  | 0 => L
  | k + 1 => AJi (AJy L room n m x ys k) room n m x (shiftJ n (ys.getD k [])) (prodN (basesJ (n + m) room))
def AJx (room n m : Nat) (xs ys : List (List Int)) : Nat → List (Nat × Nat)
  | 0 => []
  | k + 1 => AJy (AJx room n m xs ys k) room n m (xs.getD k []) ys ys.length
def AJ (room n m : Nat) : List (Nat × Nat) := AJx room n m (ea n (min room n)) (ea m (min room m)) (ea n (min room n)).length
def goodJ (room n m : Nat) (x y : List Int) (i j : Nat) : Bool :=
  decide (pErr room n room m x y (castL (mixF i (basesJ (n + m) room))) (castL (mixF j (ownsN n m x.length y.length (mixF i (basesJ (n + m) room))))) = 0) &&
  match runJ room n m x y i j with
  | some t => (castL (natsOf t.o) == t.o) && (natsOf t.o).all (· < 20) && decide (t.o.length ≤ 20)
  | none => false
/-- All draws of two pools are as they must be. -/
def fineI (room n m : Nat) (x y : List Int) (i : Nat) : Bool :=
  decide (0 < manyJ room n m x y i) && decide (manyJ room n m x y i ≤ 25) && (ownsN n m x.length y.length (mixF i (basesJ (n + m) room))).all (fun b => decide (0 < b) && decide (b ≤ 5)) && (List.range (manyJ room n m x y i)).all (goodJ room n m x y i)
def fineXY (room n m : Nat) (x y : List Int) : Bool := (List.range (prodN (basesJ (n + m) room))).all (fineI room n m x y)
def fine (room n m : Nat) : Bool := (ea n (min room n)).all fun x => (ea m (min room m)).all fun y => fineXY room n m x (shiftJ n y)
def chkJ (room n m : Nat) : Bool := (AJ room n m).all (fun p => p.2 == ((AJ room n m).getD 0 (0, 0)).2) && decide ((AJ room n m).length = pas (n + m) room)
set_option maxRecDepth 100000 in
theorem fine_all : ∀ n, n ≤ 5 → ∀ m, m ≤ 5 - n → ∀ room, room ≤ 2 → 1 ≤ room → room ≤ n + m → fine room n m = true := by decide +kernel
set_option maxRecDepth 100000 in
theorem chkJ_all : ∀ n, n ≤ 5 → ∀ m, m ≤ 5 - n → ∀ room, room ≤ 2 → 1 ≤ room → room ≤ n + m → chkJ room n m = true := by decide +kernel
end Go.Proofs.Ytkebahdapkjacaa
