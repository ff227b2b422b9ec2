/- Shifted and scaled: plain. No condition. -/
import Derived.Test.YtdlnjalkbgkhdaaRgt
set_option linter.unusedSimpArgs false
set_option linter.unusedVariables false
namespace Go.Proofs.Ytdlnjalkbgkhdaa
/-- Alike but for whole turns. -/
def Tw (a b : Int) : Prop := (18446744073709551616 : Int) ∣ a - b
theorem Tw.refl (a : Int) : Tw a a := by unfold Tw; rw [Int.sub_self]; exact Int.dvd_zero _
theorem Tw.symm {a b : Int} (h : Tw a b) : Tw b a := by
  unfold Tw at *; have := Int.dvd_neg.2 h; rwa [Int.neg_sub] at this
theorem Tw.trans {a b c : Int} (h : Tw a b) (h' : Tw b c) : Tw a c := by
  unfold Tw at *; have := Int.dvd_add h h'; rwa [show a - b + (b - c) = a - c by omega] at this
theorem Tw.add {a b c d : Int} (h : Tw a b) (h' : Tw c d) : Tw (a + c) (b + d) := by
  unfold Tw at *; have := Int.dvd_add h h'; rwa [show a - b + (c - d) = a + c - (b + d) by omega] at this
theorem Tw.neg {a b : Int} (h : Tw a b) : Tw (-a) (-b) := by
  unfold Tw at *; have := Int.dvd_neg.2 h; rwa [show -(a - b) = -a - -b by omega] at this
theorem Tw.mul {a b c d : Int} (h : Tw a b) (h' : Tw c d) : Tw (a * c) (b * d) := by
  unfold Tw at *
  have h1 := Int.dvd_mul_of_dvd_left (c := c) h
  have h2 := Int.dvd_mul_of_dvd_right (b := b) h'
  have := Int.dvd_add h1 h2
  rwa [show (a - b) * c + b * (c - d) = a * c - b * d by grind] at this
theorem Tw.wrap (a : Int) : Tw (IntKind.i64.wrap a) a := by
  unfold Tw; rw [IntKind.wrap_i64]; omega
theorem Tw.eq {a b : Int} (h : Tw a b) (ha : -9223372036854775808 ≤ a ∧ a ≤ 9223372036854775807) (hb : -9223372036854775808 ≤ b ∧ b ≤ 9223372036854775807) : a = b := by
  unfold Tw at h; omega
theorem tw_sm (f g : Int → Int) (h : ∀ x, Tw (f x) (g x)) : ∀ l : List Int, Tw (sm (l.map f)) (sm (l.map g))
  | [] => Tw.refl _
  | x :: l => by simp only [List.map_cons, sm]; exact (h x).add (tw_sm f g h l)
theorem tw_sq (f g : Int → Int) (h : ∀ x, Tw (f x) (g x)) : ∀ l : List Int, Tw (sq (l.map f)) (sq (l.map g))
  | [] => Tw.refl _
  | x :: l => by simp only [List.map_cons, sq]; exact ((h x).mul (h x)).add (tw_sq f g h l)
theorem tw_spr (f g : Int → Int) (h : ∀ x, Tw (f x) (g x)) (l : List Int) : Tw (spr (l.map f)) (spr (l.map g)) := by
  rw [← spr_eq, ← spr_eq, List.length_map, List.length_map]
  have h1 := (Tw.refl (l.length : Int)).mul (tw_sq f g h l)
  have h2 := ((tw_sm f g h l).mul (tw_sm f g h l)).neg
  have := h1.add h2
  rwa [← Int.sub_eq_add_neg, ← Int.sub_eq_add_neg] at this
theorem far_add (b x : Int) : ∀ l : List Int, far (x + b) (l.map fun y => y + b) = far x l
  | [] => rfl
  | y :: l => by simp only [List.map_cons, far, far_add b x l]; rw [show x + b - (y + b) = x - y by omega]
theorem spr_add (b : Int) : ∀ l : List Int, spr (l.map fun y => y + b) = spr l
  | [] => rfl
  | y :: l => by simp only [List.map_cons, spr, spr_add b l, far_add]
theorem far_mul (b x : Int) : ∀ l : List Int, far (x * b) (l.map fun y => y * b) = far x l * b * b
  | [] => by simp [far]
  | y :: l => by simp only [List.map_cons, far, far_mul b x l]; grind
theorem spr_mul (b : Int) : ∀ l : List Int, spr (l.map fun y => y * b) = spr l * b * b
  | [] => by simp [spr]
  | y :: l => by simp only [List.map_cons, spr, spr_mul b l, far_mul]; grind
theorem spr_bd {l : List Int} (h : OkL l) : 0 ≤ spr l ∧ spr l ≤ 175921860444160000 := by
  refine ⟨spr_nn l, ?_⟩
  have e := spr_eq l
  have b := h.2.bd
  have h1 := h.1
  have h2 : 0 ≤ sm l * sm l := by
    rcases Int.le_total 0 (sm l) with h | h
    · exact Int.mul_nonneg h h
    · exact Int.mul_nonneg_of_nonpos_of_nonpos h h
  have h3 : (l.length : Int) * sq l ≤ 400 * 439804651110400 := Int.mul_le_mul (by omega) (by omega) (by omega) (by omega)
  omega
theorem shift_eq {l : List Int} (b : Int) (h : OkL l) (h' : OkL (l.map fun y => IntKind.i64.wrap (y + b))) : spr (l.map fun y => IntKind.i64.wrap (y + b)) = spr l := by
  have h1 := tw_spr (fun y => IntKind.i64.wrap (y + b)) (fun y => y + b) (fun x => Tw.wrap _) l
  rw [spr_add] at h1
  have b1 := spr_bd h
  have b2 := spr_bd h'
  exact h1.eq (by omega) (by omega)
theorem scale_eq {l : List Int} (b : Int) (h' : OkL (l.map fun y => IntKind.i64.wrap (y * b))) : spr (l.map fun y => IntKind.i64.wrap (y * b)) = IntKind.i64.wrap (IntKind.i64.wrap (spr l * b) * b) := by
  have h1 := tw_spr (fun y => IntKind.i64.wrap (y * b)) (fun y => y * b) (fun x => Tw.wrap _) l
  rw [spr_mul] at h1
  have h2 : Tw (IntKind.i64.wrap (IntKind.i64.wrap (spr l * b) * b)) (spr l * b * b) := (Tw.wrap _).trans ((Tw.wrap _).mul (Tw.refl _))
  have b2 := spr_bd h'
  refine (h1.trans h2.symm).eq (by omega) ?_
  rw [IntKind.wrap_i64]
  omega
/-- Some of its elements turned, from the front. -/
def part (f : Int → Int) (l : List Int) (k : Nat) : List Int := (l.take k).map f ++ l.drop k
theorem part_zero (f : Int → Int) (l : List Int) : part f l 0 = l := by simp [part]
theorem part_all (f : Int → Int) (l : List Int) (k : Nat) (h : l.length = k) : part f l k = l.map f := by
  subst h; simp [part]
theorem part_len (f : Int → Int) (l : List Int) (k : Nat) : (part f l k).length = l.length := by simp [part]; omega
theorem part_get (f : Int → Int) (l : List Int) (k : Nat) (h : k < l.length) : (part f l k).getD k 0 = l.getD k 0 := by
  unfold part
  rw [List.getD_eq_getElem?_getD, List.getD_eq_getElem?_getD, List.getElem?_append_right (by simp; omega), List.getElem?_drop]
  simp [Nat.min_eq_left (Nat.le_of_lt h)]
theorem part_set (f : Int → Int) (l : List Int) (k : Nat) (h : k < l.length) : (part f l k).set k (f (l.getD k 0)) = part f l (k + 1) := by
  unfold part
  have hl : ((l.take k).map f).length = k := by simp; omega
  rw [List.set_append_right _ _ (by omega), hl, Nat.sub_self, take_s l k h, List.drop_eq_getElem_cons h, List.set_cons_zero, List.map_append]
  simp
end Go.Proofs.Ytdlnjalkbgkhdaa
