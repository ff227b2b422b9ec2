/- alias.Make: what it answers. No condition. -/
import Derived.Test.YtambhciacmkdoaaSum
import Derived.Deep.LoopGhost
set_option linter.unusedSimpArgs false
set_option linter.unusedVariables false
namespace Go.Proofs.Ytambhciacmkdoaa
open Go.RowKit
theorem Try.info33t : (Try.prog.info? 33).map (fun i => (i.zero, i.size, i.bytes)) = some (some (.agg #[.int .i64 0, .int .i64 0]), 2, 16) := by kernel_rfl
def mix (V T : Nat → Nat) (j : Nat) : Nat := if j % 2 = 0 then V (j / 2) else T (j / 2)
/-- A row of structs of the call's own: a level and an index at each place. -/
def OS (w : World) (base g n : Nat) (V T : Nat → Nat) : Prop := w.ownsRow base 33 2 (.slice (some ⟨g, 0, none⟩) n n) n ((tabI (n * 2) (mix V T)).map (Value.int .i64))
theorem mapI_get (l : List Int) (j : Nat) (h : j < l.length) : (l.map (Value.int .i64))[j]? = some (.int .i64 (l.getD j 0)) := by
  rw [List.getElem?_map, List.getD_eq_getElem?_getD, List.getElem?_eq_getElem h]; rfl
theorem OS.level {w : World} {base g n : Nat} {V T : Nat → Nat} (h : OS w base g n V T) {i : Nat} (hi : i < n) : w.cell? ⟨g, i * 2, none⟩ = some (.int .i64 (V i : Nat)) := by
  rw [World.ownsRow.cellAt h (i * 2) (by omega), mapI_get _ _ (by rw [tabI_len]; omega), tabI_get _ _ _ (by omega)]
  unfold mix
  rw [if_pos (by omega), show i * 2 / 2 = i by omega]
theorem OS.who {w : World} {base g n : Nat} {V T : Nat → Nat} (h : OS w base g n V T) {i : Nat} (hi : i < n) : w.cell? ⟨g, i * 2 + 1, none⟩ = some (.int .i64 (T i : Nat)) := by
  rw [World.ownsRow.cellAt h (i * 2 + 1) (by omega), mapI_get _ _ (by rw [tabI_len]; omega), tabI_get _ _ _ (by omega)]
  unfold mix
  rw [if_neg (by omega), show (i * 2 + 1) / 2 = i by omega]
theorem OS.frozen {w : World} {base g n : Nat} {V T : Nat → Nat} (h : OS w base g n V T) (j : Nat) : w.frozen? ⟨g, j, none⟩ = false := World.ownsRow.frozenAt h j
def upd (f : Nat → Nat) (i x : Nat) : Nat → Nat := fun j => if j = i then x else f j
theorem OS.set {w : World} {base g n : Nat} {V T : Nat → Nat} (h : OS w base g n V T) {i : Nat} (hi : i < n) (a b : Nat) :
    OS ((w.setCell ⟨g, i * 2, none⟩ (.int .i64 (a : Int))).setCell ⟨g, i * 2 + 1, none⟩ (.int .i64 (b : Int))) base g n (upd V i a) (upd T i b) := by
  have h1 := (h.stored (i * 2) (.int .i64 (a : Int))).1
  rw [← List.map_set, tabI_set] at h1
  have h2 := (World.ownsRow.stored h1 (i * 2 + 1) (.int .i64 (b : Int))).1
  rw [← List.map_set, tabI_set] at h2
  unfold OS
  rw [tabI_congr (f := mix (upd V i a) (upd T i b)) (g := fun d => if d = i * 2 + 1 then b else if d = i * 2 then a else mix V T d) (fun d hd => by
    unfold mix upd
    by_cases e : d % 2 = 0
    · rw [if_pos e, if_pos e, if_neg (show ¬ d = i * 2 + 1 by omega)]
      by_cases e2 : d / 2 = i
      · rw [if_pos e2, if_pos (by omega)]
      · rw [if_neg e2, if_neg (by omega)]
    · rw [if_neg e, if_neg e]
      by_cases e2 : d / 2 = i
      · rw [if_pos e2, if_pos (by omega)]
      · rw [if_neg e2, if_neg (by omega), if_neg (by omega)])]
  exact h2
theorem OS.below {w w' : World} {base B g n : Nat} {V T : Nat → Nat} (h : OS w base g n V T) (hb : Below B w w') (hB : w.heap.size ≤ B) : OS w' base g n V T := own_below h hb hB
theorem OS.congr {w : World} {base g n : Nat} {V T V' T' : Nat → Nat} (h : OS w base g n V T) (h1 : ∀ i, i < n → V i = V' i) (h2 : ∀ i, i < n → T i = T' i) : OS w base g n V' T' := by
  unfold OS at h ⊢
  rwa [tabI_congr (g := mix V' T') (fun d hd => by unfold mix; split; exact h1 _ (by omega); exact h2 _ (by omega))] at h
theorem OS.made {w : World} {base g n : Nat} (h : w.ownsRow base 33 2 (.slice (some ⟨g, 0, none⟩) n n) n (madeCells #[Value.int .i64 0, Value.int .i64 0] (n * 2)).toList) : OS w base g n (fun _ => 0) (fun _ => 0) := by
  have e : (madeCells #[Value.int .i64 0, Value.int .i64 0] (n * 2)).toList = (tabI (n * 2) (mix (fun _ => 0) (fun _ => 0))).map (Value.int .i64) := by
    apply List.ext_getElem
    · simp [madeCells, tabI]
    · intro j h1 h2
      simp only [madeCells, tabI, Array.toList_map, List.getElem_map, Array.toList_range, List.getElem_range]
      have : mix (fun _ => 0) (fun _ => 0) j = 0 := by unfold mix; split <;> rfl
      rw [this]
      rcases (show j % 2 = 0 ∨ j % 2 = 1 by omega) with e | e
      · simp [e]
      · simp [e]
  rw [e] at h
  exact h
/-- The first place at which it holds; -1: at none. -/
def fl (p : Nat → Bool) : Nat → Int
  | 0 => -1
  | k + 1 => if fl p k < 0 ∧ p k = true then (k : Int) else fl p k
theorem fl_ge (p : Nat → Bool) : ∀ k, -1 ≤ fl p k ∧ fl p k < k ∨ fl p k = -1
  | 0 => .inr rfl
  | k + 1 => by
    have := fl_ge p k
    rw [fl]
    split
    · left; omega
    · rcases this with h | h
      · left; omega
      · right; exact h
theorem fl_at {p : Nat → Bool} : ∀ {k : Nat}, 0 ≤ fl p k → ∃ i : Nat, fl p k = i ∧ i < k ∧ p i = true
  | 0, h => by simp [fl] at h
  | k + 1, h => by
    rw [fl] at h ⊢
    by_cases c : fl p k < 0 ∧ p k = true
    · rw [if_pos c]; exact ⟨k, rfl, by omega, c.2⟩
    · rw [if_neg c] at h ⊢
      obtain ⟨i, h1, h2, h3⟩ := fl_at h
      exact ⟨i, h1, by omega, h3⟩
theorem fl_none {p : Nat → Bool} : ∀ {k : Nat}, fl p k < 0 → ∀ i, i < k → p i = false
  | k + 1, h, i, hi => by
    rw [fl] at h
    by_cases c : fl p k < 0 ∧ p k = true
    · rw [if_pos c] at h; omega
    · rw [if_neg c] at h
      by_cases e : i = k
      · subst e
        cases hp : p i with
        | false => rfl
        | true => exact absurd ⟨h, hp⟩ c
      · exact fl_none h i (by omega)
def lowp (S : Nat) (L : Nat → Nat) (D : Nat → Bool) (k : Nat) : Bool := !D k && decide (L k < S)
def highp (S : Nat) (L : Nat → Nat) (D : Nat → Bool) (k : Nat) : Bool := !D k && decide (S < L k)
/-- Where Make stands: what is left, which places are done, levels, and whom they lead to. -/
structure St where
  L : Nat → Nat
  D : Nat → Bool
  V : Nat → Nat
  T : Nat → Nat
def loF (n S : Nat) (s : St) : Int := fl (lowp S s.L s.D) n
def hiF (n S : Nat) (s : St) : Int := fl (highp S s.L s.D) n
def nxt (n S : Nat) (s : St) : St :=
  let l := (loF n S s).toNat
  let h := (hiF n S s).toNat
  ⟨upd s.L h (s.L h - (S - s.L l)), fun k => if k = l then true else s.D k, upd s.V l (s.L l), upd s.T l h⟩
def run (n S : Nat) : Nat → St → St
  | 0, s => s
  | f + 1, s => if loF n S s < 0 ∨ hiF n S s < 0 then s else run n S f (nxt n S s)
def st0 (n S : Nat) (f : Nat → Nat) : St := ⟨fun k => f k * n, fun _ => false, fun _ => S, fun k => k⟩
/-- How many places are not done. -/
def undone (D : Nat → Bool) : Nat → Nat
  | 0 => 0
  | k + 1 => undone D k + if D k then 0 else 1
theorem undone_le (D : Nat → Bool) : ∀ n, undone D n ≤ n
  | 0 => Nat.le_refl _
  | n + 1 => by have := undone_le D n; rw [undone]; split <;> omega
theorem undone_set {D D' : Nat → Bool} {l : Nat} (h : D l = false) (h1 : D' l = true) (h2 : ∀ k, k ≠ l → D' k = D k) : ∀ n : Nat, undone D' n + (if l < n then 1 else 0) = undone D n
  | 0 => rfl
  | n + 1 => by
    have ih := undone_set h h1 h2 n
    rw [undone, undone]
    by_cases e : n = l
    · subst e
      rw [if_neg (Nat.lt_irrefl n)] at ih
      rw [h1, h, if_pos rfl, if_neg Bool.false_ne_true, if_pos (Nat.lt_succ_self n)]
      omega
    · rw [h2 n e]
      by_cases e2 : l < n
      · rw [if_pos e2] at ih; rw [if_pos (show l < n + 1 by omega)]; omega
      · rw [if_neg e2] at ih; rw [if_neg (show ¬ l < n + 1 by omega)]; omega
theorem nxt_undone {n S : Nat} {s : St} (h1 : 0 ≤ loF n S s) : undone (nxt n S s).D n + 1 = undone s.D n := by
  obtain ⟨l, e1, e2, e3⟩ := fl_at h1
  have e1 : loF n S s = (l : Int) := e1
  have hd : s.D l = false := by unfold lowp at e3; simp at e3; exact e3.1
  have := undone_set (D := s.D) (D' := (nxt n S s).D) (l := l) hd (by unfold nxt; simp [e1]) (fun k hk => by unfold nxt; simp [e1, hk]) n
  rw [if_pos e2] at this
  exact this
/-- Rounds without end, up to where nothing is left to do. -/
theorem run_stop {n S : Nat} : ∀ (f : Nat) (s : St), undone s.D n ≤ f → loF n S (run n S f s) < 0 ∨ hiF n S (run n S f s) < 0
  | 0, s, h => by
    rw [run]
    left
    rcases Int.lt_or_le (loF n S s) 0 with h1 | h1
    · exact h1
    · have := nxt_undone h1; omega
  | f + 1, s, h => by
    rw [run]
    by_cases c : loF n S s < 0 ∨ hiF n S s < 0
    · rw [if_pos c]; exact c
    · rw [if_neg c]
      refine run_stop f _ ?_
      have := nxt_undone (n := n) (S := S) (s := s) (by omega)
      omega
theorem run_done {n S : Nat} {s : St} (c : loF n S s < 0 ∨ hiF n S s < 0) : ∀ f, run n S f s = s
  | 0 => rfl
  | f + 1 => by rw [run, if_pos c]
/-- What Make has. -/
def fin (n S : Nat) (f : Nat → Nat) : St := run n S n (st0 n S f)
end Go.Proofs.Ytambhciacmkdoaa
