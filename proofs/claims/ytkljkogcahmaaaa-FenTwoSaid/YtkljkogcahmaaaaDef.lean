/- Sums; rows of the call's own as functions of the place. No condition. -/
import Derived.Test.YtkljkogcahmaaaaGen
set_option linter.unusedSimpArgs false
set_option linter.unusedVariables false
namespace Go.Proofs.Ytkljkogcahmaaaa
/-- The sum over all below k. -/
def tot (g : Nat → Nat) : Nat → Nat
  | 0 => 0
  | k + 1 => tot g k + g k
theorem tot_congr {f g : Nat → Nat} : ∀ {k : Nat}, (∀ i, i < k → f i = g i) → tot f k = tot g k
  | 0, _ => rfl
  | k + 1, h => by rw [tot, tot, tot_congr (fun i hi => h i (by omega)), h k (by omega)]
theorem tot_add (g : Nat → Nat) (a : Nat) : ∀ b, tot g (a + b) = tot g a + tot (fun i => g (a + i)) b
  | 0 => rfl
  | b + 1 => by rw [← Nat.add_assoc, tot, tot, tot_add g a b]; omega
theorem tot_zero : ∀ {g : Nat → Nat} {k : Nat}, (∀ i, i < k → g i = 0) → tot g k = 0
  | _, 0, _ => rfl
  | g, k + 1, h => by rw [tot, tot_zero (fun i hi => h i (by omega)), h k (by omega)]
theorem tot_plus (f g : Nat → Nat) : ∀ k, tot (fun i => f i + g i) k = tot f k + tot g k
  | 0 => rfl
  | k + 1 => by rw [tot, tot, tot, tot_plus f g k]; omega
theorem tot_mul (f : Nat → Nat) (c : Nat) : ∀ k, tot (fun i => c * f i) k = c * tot f k
  | 0 => rfl
  | k + 1 => by rw [tot, tot, tot_mul f c k, Nat.mul_add]
theorem tot_swap (f : Nat → Nat → Nat) (n : Nat) : ∀ m, tot (fun i => tot (f i) n) m = tot (fun j => tot (fun i => f i j) m) n
  | 0 => (tot_zero (fun _ _ => rfl)).symm
  | m + 1 => by
    rw [tot, tot_swap f n m, ← tot_plus]
    rfl
theorem tot_le {f : Nat → Nat} {c : Nat} : ∀ {k : Nat}, (∀ i, i < k → f i ≤ c) → tot f k ≤ k * c
  | 0, _ => Nat.zero_le _
  | k + 1, h => by
    have h1 := tot_le (k := k) (fun i hi => h i (by omega))
    have h2 := h k (by omega)
    rw [tot, Nat.add_mul, Nat.one_mul]; omega
theorem tot_mono2 {f g : Nat → Nat} : ∀ {k : Nat}, (∀ i, i < k → f i ≤ g i) → tot f k ≤ tot g k
  | 0, _ => Nat.le_refl _
  | k + 1, h => by
    have h1 := tot_mono2 (k := k) (fun i hi => h i (by omega))
    have h2 := h k (by omega)
    rw [tot, tot]; omega
theorem tot_shift (h : Nat → Nat) (i m : Nat) : tot (fun k => if i ≤ k then h (k - i) else 0) (i + m) = tot h m := by
  rw [tot_add, tot_zero (fun k hk => by rw [if_neg (by omega)]), Nat.zero_add]
  exact tot_congr fun k _ => by rw [if_pos (by omega), show i + k - i = k by omega]
theorem tot_more (h : Nat → Nat) (n m : Nat) (hnm : n ≤ m) (hz : ∀ j, n ≤ j → h j = 0) : tot h m = tot h n := by
  obtain ⟨c, rfl⟩ : ∃ c, m = n + c := ⟨m - n, by omega⟩
  have e : tot (fun i => h (n + i)) c = 0 := tot_zero fun i _ => hz _ (by omega)
  rw [tot_add, e]; rfl
/-! ### Lists of counts -/
def tabI (n : Nat) (f : Nat → Nat) : List Int := (List.range n).map fun d => (f d : Int)
theorem tabI_len (n : Nat) (f : Nat → Nat) : (tabI n f).length = n := by simp [tabI]
theorem tabI_get (n : Nat) (f : Nat → Nat) (d : Nat) (h : d < n) : (tabI n f).getD d 0 = f d := by
  simp [tabI, List.getD_eq_getElem?_getD, List.getElem?_map, List.getElem?_range, h]
theorem zeros_tabI (n : Nat) : List.replicate n (0 : Int) = tabI n (fun _ => 0) := by
  apply List.ext_getElem (by simp [tabI])
  intro i h1 h2; simp [tabI]
theorem tabI_congr {n : Nat} {f g : Nat → Nat} (h : ∀ d, d < n → f d = g d) : tabI n f = tabI n g := by
  unfold tabI
  apply List.map_congr_left
  intro d hd; rw [h d (List.mem_range.1 hd)]
theorem tabI_set (n : Nat) (f : Nat → Nat) (j : Nat) (x : Nat) : (tabI n f).set j (x : Int) = tabI n (fun d => if d = j then x else f d) := by
  apply List.ext_getElem (by simp [tabI])
  intro i h1 h2
  simp only [tabI, List.getElem_set, List.getElem_map, List.getElem_range]
  by_cases h : j = i
  · subst h; simp
  · rw [if_neg h, if_neg (fun e => h e.symm)]
/-- The count at a place. -/
def nd (zs : List Int) (i : Nat) : Nat := (zs.getD i 0).toNat
theorem nd_out {zs : List Int} {i : Nat} (h : zs.length ≤ i) : nd zs i = 0 := by
  unfold nd; rw [List.getD_eq_getElem?_getD, List.getElem?_eq_none h]; rfl
theorem nd_tabI (n : Nat) (f : Nat → Nat) (i : Nat) : nd (tabI n f) i = if i < n then f i else 0 := by
  by_cases h : i < n
  · unfold nd; rw [tabI_get _ _ _ h, if_pos h]; simp
  · rw [if_neg h, nd_out (by rw [tabI_len]; omega)]
open Go.RowKit
theorem Try.info3t : (Try.prog.info? 3).map (fun i => (i.zero, i.size, i.bytes)) = some (some (.int .i64 0), 1, 8) := by kernel_rfl
def OI (w : World) (base g n : Nat) (f : Nat → Nat) : Prop := w.ownsRow base 3 1 (.slice (some ⟨g, 0, none⟩) n n) n ((tabI n f).map (Value.int .i64))
theorem OI.get {w : World} {base g n : Nat} {f : Nat → Nat} (h : OI w base g n f) (j : Nat) (hj : j < n) : w.cell? ⟨g, j, none⟩ = some (.int .i64 (f j : Nat)) := by
  have := own_get h j hj
  rwa [tabI_get _ _ _ hj] at this
theorem OI.frozen {w : World} {base g n : Nat} {f : Nat → Nat} (h : OI w base g n f) (j : Nat) : w.frozen? ⟨g, j, none⟩ = false := World.ownsRow.frozenAt h j
theorem OI.set {w : World} {base g n : Nat} {f : Nat → Nat} (h : OI w base g n f) (j x : Nat) : OI (w.setCell ⟨g, j, none⟩ (.int .i64 (x : Int))) base g n (fun i => if i = j then x else f i) := by
  have := own_set h j (x : Int)
  rwa [tabI_set] at this
theorem OI.congr {w : World} {base g n : Nat} {f f' : Nat → Nat} (h : OI w base g n f) (he : ∀ i, i < n → f i = f' i) : OI w base g n f' := by
  unfold OI at h ⊢
  rwa [tabI_congr he] at h
theorem OI.lt {w : World} {base g n : Nat} {f : Nat → Nat} (h : OI w base g n f) : base ≤ g ∧ g < w.heap.size := own_lt h
theorem OI.rd {w : World} {base g n : Nat} {f : Nat → Nat} (h : OI w base g n f) : Rd w (.slice (some ⟨g, 0, none⟩) n n) (tabI n f) := Rd.own h
theorem OI.below {w w' : World} {base B g n : Nat} {f : Nat → Nat} (h : OI w base g n f) (hb : Below B w w') (hB : w.heap.size ≤ B) : OI w' base g n f := own_below h hb hB
theorem OI.made {w : World} {base g n : Nat} (h : w.ownsRow base 3 1 (.slice (some ⟨g, 0, none⟩) n n) n (madeCells #[Value.int .i64 0] n).toList) : OI w base g n (fun _ => 0) := by
  rw [zeros_eq, zeros_tabI] at h; exact h
end Go.Proofs.Ytkljkogcahmaaaa
