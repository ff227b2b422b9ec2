/- Words of a row, round and round: plain. No condition. -/
import Derived.Test.YtoinpfcmolkhiaaDoorBruL
import Derived.Test.YtoinpfcmolkhiaaDoorBits
set_option linter.unusedSimpArgs false
set_option linter.unusedVariables false
namespace Go.Proofs.YtoinpfcmolkhiaaDoor
open Go.RowKit
/-- The number of the next n bits. -/
def wl : Nat → List Bool → Nat → Nat
  | 0, _, a => a
  | n + 1, [], a => wl n [] (a * 2)
  | n + 1, b :: r, a => wl n r (a * 2 + if b then 1 else 0)
def xl (n : Nat) : Nat → List Bool → Nat → Bool
  | 0, _, _ => true
  | c + 1, l, m => if m.testBit (wl n l 0) then false else xl n c l.tail (m ||| 2 ^ wl n l 0)
def xeach (zs : List Bool) (n : Nat) : Bool := decide (zs.length = 2 ^ n) && xl n zs.length (zs ++ zs) 0
theorem wl_lt : ∀ n l a, wl n l a < (a + 1) * 2 ^ n
  | 0, l, a => by simp [wl]
  | n + 1, [], a => by
    have h := wl_lt n [] (a * 2)
    have h2 : (a * 2 + 1) * 2 ^ n ≤ (a + 1) * 2 ^ (n + 1) := by
      rw [Nat.pow_succ, Nat.mul_comm (2 ^ n) 2, ← Nat.mul_assoc]
      exact Nat.mul_le_mul_right _ (by omega)
    show wl n [] (a * 2) < _
    omega
  | n + 1, b :: r, a => by
    have h := wl_lt n r (a * 2 + if b then 1 else 0)
    have h2 : ((a * 2 + if b then 1 else 0) + 1) * 2 ^ n ≤ (a + 1) * 2 ^ (n + 1) := by
      rw [Nat.pow_succ, Nat.mul_comm (2 ^ n) 2, ← Nat.mul_assoc]
      exact Nat.mul_le_mul_right _ (by split <;> omega)
    show wl n r (a * 2 + if b then 1 else 0) < _
    omega
theorem twice_get (zs : List Bool) (k : Nat) (hk : k < zs.length + zs.length) : (zs ++ zs)[k]? = some (zs.getD (k % zs.length) false) := by
  by_cases h : k < zs.length
  · rw [List.getElem?_append_left h, Nat.mod_eq_of_lt h, List.getD_eq_getElem?_getD, List.getElem?_eq_getElem h]; rfl
  · rw [List.getElem?_append_right (by omega), Nat.mod_eq_sub_mod (by omega), Nat.mod_eq_of_lt (by omega), List.getD_eq_getElem?_getD, List.getElem?_eq_getElem (by omega)]; rfl
theorem twice_drop (zs : List Bool) (k : Nat) (hk : k < zs.length + zs.length) : (zs ++ zs).drop k = zs.getD (k % zs.length) false :: (zs ++ zs).drop (k + 1) := by
  have hl : k < (zs ++ zs).length := by rw [List.length_append]; exact hk
  have h := twice_get zs k hk
  rw [List.getElem?_eq_getElem hl] at h
  rw [List.drop_eq_getElem_cons hl]
  congr 1
  injection h
def cntT : List Bool → Nat
  | [] => 0
  | b :: r => (if b then 1 else 0) + cntT r
/-- Which row is the first one: none ahead of it is. -/
def fst (n X : Nat) : Bool := (List.range X).all (fun x => !xeach (tabB (2 ^ n) (bitf x (2 ^ n))) n) && xeach (tabB (2 ^ n) (bitf X (2 ^ n))) n && (tabB (2 ^ n) (bitf X (2 ^ n)) == bruN n)
def firstX : Nat → Nat
  | 0 => 0
  | 1 => 1
  | 2 => 3
  | 3 => 23
  | _ => 2479
set_option maxRecDepth 100000 in
theorem first_ok : ∀ n, n < 5 → fst n (firstX n) = true := by decide +kernel
def lawE (n : Nat) : Bool := xeach (bruN n) n && decide (cntT (bruN n) = (bruN n).length / 2)
set_option maxRecDepth 100000 in
theorem each_ok : ∀ n, n < 11 → lawE n = true := by decide +kernel
end Go.Proofs.YtoinpfcmolkhiaaDoor
