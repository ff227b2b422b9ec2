/- TopCoins, the plain law: words by their bits, coins by their heads, ways by where they end: choices. No program in sight. -/
import Derived.Test.YthaiopgmncnekaaDoorGrayWords
import Derived.Test.YthaiopgmncnekaaDoorDiceSum
import Derived.Test.YthaiopgmncnekaaDoorWalkFree
set_option linter.unusedSimpArgs false
set_option linter.unusedVariables false
namespace Go.Proofs.YthaiopgmncnekaaDoor.Coins
open Go.RowKit
/-- How many bits a word of the code has. -/
def PC (x : Nat) : Nat := (bits .and .i64 (wrap64 (Gray.U (Gray.pcw (Gray.code (BitVec.ofNat 64 x))))) 127).toNat
def allT (p : Nat → Bool) : Nat → Nat → Bool
  | 0, lo => p lo
  | m + 1, lo => allT p m lo && allT p m (lo + 2 ^ m)
theorem allT_all (p : Nat → Bool) : ∀ (m lo : Nat), allT p m lo = true → ∀ y, y < 2 ^ m → p (lo + y) = true
  | 0, lo, h, y, hy => by
    have : y = 0 := by simpa using hy
    subst this
    exact h
  | m + 1, lo, h, y, hy => by
    have h' : (allT p m lo && allT p m (lo + 2 ^ m)) = true := h
    rw [Bool.and_eq_true] at h'
    rcases Nat.lt_or_ge y (2 ^ m) with h1 | h1
    · exact allT_all p m lo h'.1 y h1
    · have hy' : y < 2 ^ m + 2 ^ m := by rw [Nat.pow_succ] at hy; omega
      have := allT_all p m (lo + 2 ^ m) h'.2 (y - 2 ^ m) (by omega)
      rwa [show lo + 2 ^ m + (y - 2 ^ m) = lo + y by omega] at this
/-- How many of the first x words have k bits. -/
def cnt (f : Nat → Nat) (k : Nat) : Nat → Nat
  | 0 => 0
  | x + 1 => cnt f k x + if f x = k then 1 else 0
theorem cnt_add (f : Nat → Nat) (k a : Nat) : ∀ b, cnt f k (a + b) = cnt f k a + cnt (fun y => f (a + y)) k b
  | 0 => rfl
  | b + 1 => by
    show cnt f k (a + b) + (if f (a + b) = k then 1 else 0) = cnt f k a + (cnt (fun y => f (a + y)) k b + (if f (a + b) = k then 1 else 0))
    rw [cnt_add f k a b, Nat.add_assoc]
theorem cnt_congr {f g : Nat → Nat} {k : Nat} : ∀ {n : Nat}, (∀ y, y < n → f y = g y) → cnt f k n = cnt g k n
  | 0, _ => rfl
  | n + 1, h => by
    show cnt f k n + _ = cnt g k n + _
    rw [cnt_congr fun y hy => h y (by omega), h n (by omega)]
theorem cnt_front (f : Nat → Nat) (k : Nat) : ∀ n, cnt f k (n + 1) = (if f 0 = k then 1 else 0) + cnt (fun y => f (y + 1)) k n
  | 0 => (Nat.zero_add _).trans (Nat.add_zero _).symm
  | n + 1 => by
    show cnt f k (n + 1) + (if f (n + 1) = k then 1 else 0) = (if f 0 = k then 1 else 0) + (cnt (fun y => f (y + 1)) k n + (if f (n + 1) = k then 1 else 0))
    rw [cnt_front f k n, Nat.add_assoc]
theorem cnt_rev (f : Nat → Nat) (k : Nat) : ∀ n, cnt (fun y => f (n - 1 - y)) k n = cnt f k n
  | 0 => rfl
  | n + 1 => by
    rw [cnt_front]
    show (if f (n + 1 - 1 - 0) = k then 1 else 0) + cnt (fun y => f (n + 1 - 1 - (y + 1))) k n = cnt f k n + if f n = k then 1 else 0
    rw [show n + 1 - 1 - 0 = n by omega]
    rw [cnt_congr (g := fun y => f (n - 1 - y)) (fun y hy => by rw [show n + 1 - 1 - (y + 1) = n - 1 - y by omega]), cnt_rev f k n]
    omega
theorem cnt_succ (f : Nat → Nat) (k : Nat) : ∀ n, cnt (fun y => f y + 1) (k + 1) n = cnt f k n
  | 0 => rfl
  | n + 1 => by
    show cnt (fun y => f y + 1) (k + 1) n + (if f n + 1 = k + 1 then 1 else 0) = cnt f k n + if f n = k then 1 else 0
    rw [cnt_succ f k n]
    simp only [Nat.add_right_cancel_iff]
theorem cnt_succ0 (f : Nat → Nat) : ∀ n, cnt (fun y => f y + 1) 0 n = 0
  | 0 => rfl
  | n + 1 => by
    show cnt (fun y => f y + 1) 0 n + (if f n + 1 = 0 then 1 else 0) = 0
    rw [cnt_succ0 f n, if_neg (by omega)]
/-- Choices by Pascal's rule. -/
def ch : Nat → Nat → Nat
  | 0, 0 => 1
  | 0, _ + 1 => 0
  | n + 1, 0 => ch n 0
  | n + 1, k + 1 => ch n (k + 1) + ch n k
theorem refl_ok : ((List.range 14).all fun m => allT (fun y => PC (2 ^ m + y) == PC (2 ^ m - 1 - y) + 1) m 0) = true := by decide +kernel
theorem PC0 : PC 0 = 0 := by decide +kernel
theorem PC_refl (m y : Nat) (hm : m < 14) (hy : y < 2 ^ m) : PC (2 ^ m + y) = PC (2 ^ m - 1 - y) + 1 := by
  have h := List.all_eq_true.1 refl_ok m (List.mem_range.2 hm)
  have := allT_all _ m 0 h y hy
  rw [Nat.zero_add] at this
  exact eq_of_beq this
theorem words_ch : ∀ (n : Nat), n ≤ 14 → ∀ k, cnt PC k (2 ^ n) = ch n k
  | 0, _, k => by
    show 0 + (if PC 0 = k then 1 else 0) = _
    rw [PC0]
    cases k <;> rfl
  | n + 1, hn, k => by
    have ih := words_ch n (by omega)
    rw [show 2 ^ (n + 1) = 2 ^ n + 2 ^ n by rw [Nat.pow_succ]; omega, cnt_add, cnt_congr (g := fun y => (fun z => PC (2 ^ n - 1 - z)) y + 1) (fun y hy => PC_refl n y (by omega) hy)]
    cases k with
    | zero => rw [cnt_succ0, ih 0]; rfl
    | succ k => rw [cnt_succ, cnt_rev, ih (k + 1), ih k]; rfl
theorem PC_le : ∀ (n : Nat), n ≤ 14 → ∀ x, x < 2 ^ n → PC x ≤ n
  | 0, _, x, hx => by
    have : x = 0 := by simpa using hx
    subst this
    rw [PC0]; exact Nat.le_refl _
  | n + 1, hn, x, hx => by
    rcases Nat.lt_or_ge x (2 ^ n) with h | h
    · have := PC_le n (by omega) x h; omega
    · have hx' : x < 2 ^ n + 2 ^ n := by rw [Nat.pow_succ] at hx; omega
      have e := PC_refl n (x - 2 ^ n) (by omega) (by omega)
      rw [show 2 ^ n + (x - 2 ^ n) = x by omega] at e
      have := PC_le n (by omega) (2 ^ n - 1 - (x - 2 ^ n)) (by omega)
      omega
/-- The coins' sums. -/
def bn : Nat → List Int
  | 0 => [1]
  | n + 1 => Dice.sumL (bn n) [1, 1]
theorem bn_ok : ∀ n, n < 15 → (bn n).length = n + 1 ∧ Dice.RightL (bn n) ∧ ∀ k, k < n + 1 → (bn n).getD k 0 = ch n k := by decide +kernel
theorem one_right : Dice.RightL [1, 1] := by decide
theorem of_ch : ∀ n : Nat, n < 15 → ∀ k : Nat, k < n + 1 → Walk.ofN n k = ch n k := by decide +kernel
theorem free_ch : ∀ n : Nat, n < 15 → ∀ k : Nat, k < n + 1 → Walk.fr n (2 * (k : Int) - (n : Int)) = ch n k := by decide +kernel
end Go.Proofs.YthaiopgmncnekaaDoor.Coins
