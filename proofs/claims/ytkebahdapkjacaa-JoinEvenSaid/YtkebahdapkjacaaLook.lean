/- Sets as numbers. No condition. -/
import Derived.Test.YtkebahdapkjacaaMap
set_option linter.unusedSimpArgs false
set_option linter.unusedVariables false
namespace Go.Proofs.Ytkebahdapkjacaa
open Go.RowKit Go.Maps
theorem grown_trans {a b c : World} {r : Option Nat} (h1 : a.grownBy b r) (h2 : b.grownBy c r) : a.grownBy c r :=
  ⟨h2.os.trans h1.os, h2.tape.trans h1.tape, h2.output.trans h1.output, Nat.le_trans h1.size h2.size, fun i hi hr => (h2.block i (Nat.lt_of_lt_of_le hi h1.size) hr).trans (h1.block i hi hr)⟩
theorem ofN64 (a : Nat) (ha : a < 9223372036854775808) : (BitVec.ofInt 64 (a : Int)).toNat = a := by
  rw [BitVec.ofInt_natCast, BitVec.toNat_ofNat]; exact Nat.mod_eq_of_lt (by omega)
theorem or64 (a b : Nat) (ha : a < 4611686018427387904) (hb : b < 4611686018427387904) : bits .or .i64 (a : Int) (b : Int) = ((a ||| b : Nat) : Int) := by
  have hx : a ||| b < 2 ^ 62 := Nat.or_lt_two_pow (by omega) (by omega)
  show IntKind.i64.wrap ((BitVec.ofInt 64 (a : Int) ||| BitVec.ofInt 64 (b : Int)).toNat : Int) = _
  rw [BitVec.toNat_or, ofN64 a (by omega), ofN64 b (by omega), IntKind.wrap_i64]
  omega
theorem or64s (a b : Nat) (ha : a < 1048576) (hb : b < 1048576) : bits .or .i64 (a : Int) (b : Int) = ((a ||| b : Nat) : Int) := or64 a b (by omega) (by omega)
theorem setN_lt : ∀ (zs : List Nat) (s : Nat), (∀ z ∈ zs, z < 20) → s < 2 ^ 20 → setN zs s < 2 ^ 20
  | [], s, _, h => h
  | x :: r, s, hz, h => setN_lt r _ (fun z hz' => hz z (List.mem_cons_of_mem _ hz')) (Nat.or_lt_two_pow h (Nat.pow_lt_pow_right (by omega) (hz x List.mem_cons_self)))
theorem setN_take : ∀ (zs : List Nat) (s i : Nat), i < zs.length → setN (zs.take (i + 1)) s = setN (zs.take i) s ||| 2 ^ (zs.getD i 0)
  | [], _, _, h => absurd h (Nat.not_lt_zero _)
  | x :: r, s, 0, _ => by simp [setN]
  | x :: r, s, i + 1, h => by
    rw [List.take_succ_cons, List.take_succ_cons, List.getD_cons_succ]
    exact setN_take r _ i (by simpa using h)
theorem getD_cast (zs : List Nat) (i : Nat) : (zs.map (fun z : Nat => (z : Int))).getD i 0 = ((zs.getD i 0 : Nat) : Int) := by
  rw [List.getD_eq_getElem?_getD, List.getElem?_map, List.getD_eq_getElem?_getD]
  cases zs[i]? <;> rfl
end Go.Proofs.Ytkebahdapkjacaa
