/- math/bits.Sub64's law here; comparing words from the top: plain. -/
import Derived.Test.YtkaejoejaohpcaaA64
import Derived.Shelf.Spec.BitsCarry
namespace Go.Proofs.Ytkaejoejaohpcaa
open Go.RowKit
theorem sub64 (x y b : Nat) (hb : b ≤ 1) (w : World) : (callFunc 23 #[.int .u64 x, .int .u64 y, .int .u64 b]).run Try.prog w =
    .ok (.value (.tuple #[.int .u64 (((x + 18446744073709551616 - y - b) % 18446744073709551616 : Nat) : Int), .int .u64 ((if x < y + b then 1 else 0 : Nat) : Int)])) w := by
  rw [run_callFunc_extern Try.func23 (by kernel_rfl) (by kernel_rfl) (by kernel_rfl) (e := sub64Entry) (by kernel_rfl), run_sub64 x y b hb]
  rfl
theorem val_at (l : List Nat) (k : Nat) (h : k < l.length) : val l = val (l.take k) + 18446744073709551616 ^ k * (l.getD k 0 + 18446744073709551616 * val (l.drop (k + 1))) := by
  have e : l = l.take k ++ (l.getD k 0 :: l.drop (k + 1)) := by
    have h1 : l.drop k = l.getD k 0 :: l.drop (k + 1) := by
      rw [List.drop_eq_getElem_cons h, List.getD_eq_getElem?_getD, List.getElem?_eq_getElem h]; rfl
    rw [← h1, List.take_append_drop]
  have h2 := congrArg val e
  rw [val_app, List.length_take, Nat.min_eq_left (by omega)] at h2
  exact h2
theorem wd_take {l : List Nat} (h : Wd l) (k : Nat) : Wd (l.take k) := fun x hx => h x (List.mem_of_mem_take hx)
theorem lt_wordB {B p ta tb x y r : Nat} (h1 : ta < p) (h : x < y) : ta + p * (x + B * r) < tb + p * (y + B * r) := by
  have e1 : p * (x + 1 + B * r) ≤ p * (y + B * r) := Nat.mul_le_mul (Nat.le_refl _) (by omega)
  have e2 : p * (x + 1 + B * r) = p * (x + B * r) + p := by rw [show x + 1 + B * r = (x + B * r) + 1 by omega, Nat.mul_add, Nat.mul_one]
  omega
theorem lt_word {la lb : List Nat} {k : Nat} (ha : Wd la) (h1 : k < la.length) (h2 : k < lb.length) (hd : la.drop (k + 1) = lb.drop (k + 1)) (h : la.getD k 0 < lb.getD k 0) : val la < val lb := by
  rw [val_at la k h1, val_at lb k h2, hd]
  have h3 := val_lt (wd_take ha k)
  rw [List.length_take, Nat.min_eq_left (by omega)] at h3
  exact lt_wordB h3 h
theorem lt_len {la lb : List Nat} (ha : Canon la) (hb : Canon lb) (h : la.length < lb.length) : val la < val lb := by
  have h1 := val_lt ha.wd
  have h2 := val_ge hb (by intro e; rw [e] at h; simp at h)
  have h3 : 18446744073709551616 ^ la.length ≤ 18446744073709551616 ^ (lb.length - 1) := Nat.pow_le_pow_right (by decide) (by omega)
  exact Nat.lt_of_lt_of_le h1 (Nat.le_trans h3 h2)
theorem drop_word {la lb : List Nat} {k : Nat} (h1 : k < la.length) (h2 : k < lb.length) (hd : la.drop (k + 1) = lb.drop (k + 1)) (h : la.getD k 0 = lb.getD k 0) : la.drop k = lb.drop k := by
  have e : ∀ (l : List Nat), k < l.length → l.drop k = l.getD k 0 :: l.drop (k + 1) := fun l hl => by
    rw [List.drop_eq_getElem_cons hl, List.getD_eq_getElem?_getD, List.getElem?_eq_getElem hl]; rfl
  rw [e la h1, e lb h2, hd, h]
end Go.Proofs.Ytkaejoejaohpcaa
