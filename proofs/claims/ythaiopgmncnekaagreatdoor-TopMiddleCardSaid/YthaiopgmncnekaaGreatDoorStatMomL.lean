/- Sums of numbers, of squares, of products: plain. No condition. -/
import Derived.Test.YthaiopgmncnekaaGreatDoorGen
set_option linter.unusedSimpArgs false
set_option linter.unusedVariables false
set_option maxRecDepth 20000
namespace Go.Proofs.YthaiopgmncnekaaGreatDoor.Stat
def sm : List Int → Int
  | [] => 0
  | x :: l => x + sm l
def sq : List Int → Int
  | [] => 0
  | x :: l => x * x + sq l
def dot : List Int → List Int → Int
  | x :: l, y :: m => x * y + dot l m
  | _, _ => 0
theorem sm_app : ∀ l m : List Int, sm (l ++ m) = sm l + sm m
  | [], m => by simp [sm]
  | x :: l, m => by simp only [List.cons_append, sm, sm_app l m]; omega
theorem sq_app : ∀ l m : List Int, sq (l ++ m) = sq l + sq m
  | [], m => by simp [sq]
  | x :: l, m => by simp only [List.cons_append, sq, sq_app l m]; omega
theorem take_s (l : List Int) (k : Nat) (h : k < l.length) : l.take (k + 1) = l.take k ++ [l.getD k 0] := by
  rw [List.take_add_one, List.getElem?_eq_getElem h, List.getD_eq_getElem?_getD, List.getElem?_eq_getElem h]; rfl
theorem sm_take (l : List Int) (k : Nat) (h : k < l.length) : sm (l.take (k + 1)) = sm (l.take k) + l.getD k 0 := by
  rw [take_s l k h, sm_app]; simp [sm]
theorem sq_take (l : List Int) (k : Nat) (h : k < l.length) : sq (l.take (k + 1)) = sq (l.take k) + l.getD k 0 * l.getD k 0 := by
  rw [take_s l k h, sq_app]; simp [sq]
/-- None is too great. -/
def Sml (l : List Int) : Prop := ∀ x ∈ l, -1048576 ≤ x ∧ x ≤ 1048576
instance (l : List Int) : Decidable (Sml l) := inferInstanceAs (Decidable (∀ x ∈ l, -1048576 ≤ x ∧ x ≤ 1048576))
def OkL (l : List Int) : Prop := l.length ≤ 400 ∧ Sml l
instance (l : List Int) : Decidable (OkL l) := inferInstanceAs (Decidable (_ ∧ _))
theorem sqr_le {x : Int} (h : -1048576 ≤ x ∧ x ≤ 1048576) : 0 ≤ x * x ∧ x * x ≤ 1099511627776 := by
  have h1 : 0 ≤ (1048576 - x) * (1048576 + x) := Int.mul_nonneg (by omega) (by omega)
  have h2 : (1048576 - x) * (1048576 + x) = 1099511627776 - x * x := by grind
  exact ⟨by rcases Int.le_total 0 x with h | h; exact Int.mul_nonneg h h; exact Int.mul_nonneg_of_nonpos_of_nonpos h h, by omega⟩
theorem Sml.bd : ∀ {l : List Int}, Sml l → -(l.length : Int) * 1048576 ≤ sm l ∧ sm l ≤ (l.length : Int) * 1048576 ∧ 0 ≤ sq l ∧ sq l ≤ (l.length : Int) * 1099511627776
  | [], _ => by simp [sm, sq]
  | x :: l, h => by
    have h1 := h x List.mem_cons_self
    have h2 := sqr_le h1
    obtain ⟨a, b, c, d⟩ := Sml.bd (l := l) fun y hy => h y (List.mem_cons_of_mem _ hy)
    simp only [sm, sq, List.length_cons]
    omega
theorem Sml.take {l : List Int} (h : Sml l) (k : Nat) : Sml (l.take k) := fun x hx => h x (List.mem_of_mem_take hx)
theorem getD_memI (l : List Int) (k : Nat) (h : k < l.length) : l.getD k 0 ∈ l := by
  rw [List.getD_eq_getElem?_getD, List.getElem?_eq_getElem h]; exact List.getElem_mem h
/-- How far all are from one, squared. -/
def far (x : Int) : List Int → Int
  | [] => 0
  | y :: l => (x - y) * (x - y) + far x l
theorem far_eq (x : Int) : ∀ l : List Int, far x l = (l.length : Int) * (x * x) - 2 * x * sm l + sq l
  | [] => by simp [far, sm, sq]
  | y :: l => by
    have ih := far_eq x l
    simp only [far, sm, sq, List.length_cons, ih]
    have e : ((l.length + 1 : Nat) : Int) = (l.length : Int) + 1 := by omega
    rw [e]
    grind
theorem far_nn (x : Int) : ∀ l : List Int, 0 ≤ far x l
  | [] => Int.le_refl 0
  | y :: l => by
    have := far_nn x l
    have h : 0 ≤ (x - y) * (x - y) := by
      rcases Int.le_total 0 (x - y) with h | h
      · exact Int.mul_nonneg h h
      · exact Int.mul_nonneg_of_nonpos_of_nonpos h h
    simp only [far]; omega
/-- Pair by pair. -/
def spr : List Int → Int
  | [] => 0
  | x :: l => far x l + spr l
theorem spr_nn : ∀ l : List Int, 0 ≤ spr l
  | [] => Int.le_refl 0
  | x :: l => by
    have := spr_nn l
    have := far_nn x l
    simp only [spr]; omega
/-- Spread is that of all pairs. -/
theorem spr_eq : ∀ l : List Int, (l.length : Int) * sq l - sm l * sm l = spr l
  | [] => by simp [spr, sm, sq]
  | x :: l => by
    have ih := spr_eq l
    have hf := far_eq x l
    simp only [spr, sm, sq, List.length_cons]
    rw [hf, ← ih]
    have e : ((l.length + 1 : Nat) : Int) = (l.length : Int) + 1 := by omega
    rw [e]
    grind
/-- Moments that may be. -/
structure RightM (n s q : Int) : Prop where
  n0 : 0 ≤ n
  n1 : n ≤ 1024
  s0 : -n * 1048576 ≤ s
  s1 : s ≤ n * 1048576
  q0 : 0 ≤ q
  q1 : q ≤ n * 1099511627776
  cs : s * s ≤ n * q
  even : (s - q) % 2 = 0
theorem par : ∀ l : List Int, (sm l - sq l) % 2 = 0
  | [] => rfl
  | x :: l => by
    have ih := par l
    have h : (x - x * x) % 2 = 0 := by
      rcases Int.emod_two_eq x with h | h
      · obtain ⟨k, hk⟩ : ∃ k, x = 2 * k := ⟨x / 2, by omega⟩
        rw [hk, show 2 * k - 2 * k * (2 * k) = 2 * (k - k * (2 * k)) by grind]
        omega
      · obtain ⟨k, hk⟩ : ∃ k, x = 2 * k + 1 := ⟨x / 2, by omega⟩
        rw [hk, show 2 * k + 1 - (2 * k + 1) * (2 * k + 1) = 2 * (-(k * (2 * k + 1))) by grind]
        omega
    simp only [sm, sq]
    omega
theorem right_of {l : List Int} (h : Sml l) (hn : l.length ≤ 1024) : RightM l.length (sm l) (sq l) := by
  obtain ⟨a, b, c, d⟩ := h.bd
  have := spr_eq l
  have := spr_nn l
  exact ⟨by omega, by omega, a, b, c, d, by omega, par l⟩
theorem right_zero : RightM 0 0 0 := ⟨by decide, by decide, by decide, by decide, by decide, by decide, by decide, by decide⟩
end Go.Proofs.YthaiopgmncnekaaGreatDoor.Stat
