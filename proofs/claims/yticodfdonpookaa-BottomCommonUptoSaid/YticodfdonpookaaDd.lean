/- Lists without twins in the order of rank: plain. No condition. -/
import Derived.Test.YticodfdonpookaaRgt
set_option linter.unusedSimpArgs false
set_option linter.unusedVariables false
set_option maxRecDepth 20000
namespace Go.Proofs.Yticodfdonpookaa
def ins (s x : BitVec 64) : List (BitVec 64) → List (BitVec 64)
  | [] => [x]
  | y :: l => if U (rk s x) < U (rk s y) then x :: y :: l else if x = y then y :: l else y :: ins s x l
def dd (s : BitVec 64) : List (BitVec 64) → List (BitVec 64)
  | [] => []
  | x :: l => ins s x (dd s l)
theorem ins_mem (s x z : BitVec 64) : ∀ l, z ∈ ins s x l ↔ z = x ∨ z ∈ l
  | [] => by simp [ins]
  | y :: l => by
    have ih := ins_mem s x z l
    unfold ins
    split
    · simp
    · split
      · rename_i h; subst h; simp
      · simp only [List.mem_cons, ih]
        constructor
        · rintro (h | h | h) <;> simp [h]
        · rintro (h | h | h) <;> simp [h]
theorem rk_lt {s x y : BitVec 64} (h : ¬ U (rk s x) < U (rk s y)) (h2 : x ≠ y) : U (rk s y) < U (rk s x) := by
  have : U (rk s x) ≠ U (rk s y) := fun e => h2 (rk_inj (U_inj.1 e))
  omega
theorem ins_asc (s x : BitVec 64) : ∀ {l}, Asc s l → Asc s (ins s x l)
  | [], _ => by simp [ins, Asc]
  | y :: l, h => by
    have h' := List.pairwise_cons.1 h
    have ih := ins_asc s x (l := l) h'.2
    unfold ins
    split
    · rename_i g
      exact List.pairwise_cons.2 ⟨fun z hz => by
        rcases List.mem_cons.1 hz with rfl | hz
        · exact g
        · have := h'.1 z hz; omega, h⟩
    · split
      · exact h
      · rename_i g1 g2
        refine List.pairwise_cons.2 ⟨fun z hz => ?_, ih⟩
        rcases (ins_mem s x z l).1 hz with rfl | hz
        · exact rk_lt g1 g2
        · exact h'.1 z hz
theorem dd_asc (s : BitVec 64) : ∀ l, Asc s (dd s l)
  | [] => List.Pairwise.nil
  | x :: l => ins_asc s x (dd_asc s l)
theorem dd_mem (s z : BitVec 64) : ∀ l, z ∈ dd s l ↔ z ∈ l
  | [] => by simp [dd]
  | x :: l => by simp only [dd, ins_mem, dd_mem s z l, List.mem_cons]
/-- In order and the same members: the same. -/
theorem asc_unique {s : BitVec 64} : ∀ {a b : List (BitVec 64)}, Asc s a → Asc s b → (∀ x, x ∈ a ↔ x ∈ b) → a = b
  | [], [], _, _, _ => rfl
  | [], y :: b, _, _, h => by have := (h y).2 List.mem_cons_self; simp at this
  | x :: a, [], _, _, h => by have := (h x).1 List.mem_cons_self; simp at this
  | x :: a, y :: b, ha, hb, h => by
    have ha' := List.pairwise_cons.1 ha
    have hb' := List.pairwise_cons.1 hb
    have e : x = y := by
      rcases List.mem_cons.1 ((h x).1 List.mem_cons_self) with e | e
      · exact e
      · rcases List.mem_cons.1 ((h y).2 List.mem_cons_self) with e2 | e2
        · exact e2.symm
        · have h1 := hb'.1 x e
          have h2 := ha'.1 y e2
          omega
    subst e
    rw [asc_unique ha'.2 hb'.2 fun z => ⟨fun hz => ?_, fun hz => ?_⟩]
    · rcases List.mem_cons.1 ((h z).1 (List.mem_cons_of_mem _ hz)) with e | e
      · have := ha'.1 z hz; rw [e] at this; omega
      · exact e
    · rcases List.mem_cons.1 ((h z).2 (List.mem_cons_of_mem _ hz)) with e | e
      · have := hb'.1 z hz; rw [e] at this; omega
      · exact e
theorem dd_of {s : BitVec 64} {a l : List (BitVec 64)} (ha : Asc s a) (h : ∀ x, x ∈ a ↔ x ∈ l) : a = dd s l :=
  asc_unique ha (dd_asc s l) fun x => (h x).trans (dd_mem s x l).symm
theorem dd_congr {s : BitVec 64} {a l : List (BitVec 64)} (h : ∀ x, x ∈ a ↔ x ∈ l) : dd s a = dd s l :=
  dd_of (dd_asc s a) fun x => (dd_mem s x a).trans (h x)
/-- The sketch: the first r of them. -/
def sk (s : BitVec 64) (r : Nat) (l : List (BitVec 64)) : List (BitVec 64) := (dd s l).take r
theorem sk_asc (s : BitVec 64) (r : Nat) (l : List (BitVec 64)) : Asc s (sk s r l) := (dd_asc s l).sublist (List.take_sublist _ _)
theorem sk_len (s : BitVec 64) (r : Nat) (l : List (BitVec 64)) : (sk s r l).length ≤ r := by unfold sk; rw [List.length_take]; omega
/-- Behind the first r nothing matters. -/
theorem ins_take (s x : BitVec 64) : ∀ (r : Nat) (l : List (BitVec 64)), (ins s x (l.take r)).take r = (ins s x l).take r
  | 0, l => by simp
  | r + 1, [] => by simp
  | r + 1, y :: l => by
    have ih := ins_take s x r l
    rw [List.take_succ_cons]
    unfold ins
    split
    · rw [List.take_succ_cons, List.take_succ_cons]
      cases r with
      | zero => simp
      | succ r => rw [List.take_succ_cons, List.take_succ_cons, List.take_take]; simp
    · split
      · rw [List.take_succ_cons, List.take_succ_cons, List.take_take]; simp
      · rw [List.take_succ_cons, List.take_succ_cons, ih]
theorem sk_cons (s x : BitVec 64) (r : Nat) (l : List (BitVec 64)) : sk s r (x :: l) = (ins s x (sk s r l)).take r := by
  unfold sk; rw [ins_take]; rfl
/-- A list's sketch may stand for it. -/
theorem sk_app (s : BitVec 64) (r : Nat) : ∀ a b : List (BitVec 64), sk s r (a ++ sk s r b) = sk s r (a ++ b)
  | [], b => by
    unfold sk
    rw [List.nil_append, List.nil_append, ← dd_of (l := (dd s b).take r) ((dd_asc s b).sublist (List.take_sublist _ _)) fun x => Iff.rfl, List.take_take, Nat.min_self]
  | x :: a, b => by
    rw [List.cons_append, List.cons_append, sk_cons, sk_app s r a b, ← sk_cons]
theorem sk_congr {s : BitVec 64} (r : Nat) {a l : List (BitVec 64)} (h : ∀ x, x ∈ a ↔ x ∈ l) : sk s r a = sk s r l := by
  unfold sk; rw [dd_congr h]
theorem sk_both (s : BitVec 64) (r : Nat) (a b : List (BitVec 64)) : sk s r (sk s r a ++ sk s r b) = sk s r (a ++ b) := by
  rw [sk_app, sk_congr r (l := b ++ sk s r a) (by simp [or_comm]), sk_app, sk_congr r (l := a ++ b) (by simp [or_comm])]
end Go.Proofs.Yticodfdonpookaa
