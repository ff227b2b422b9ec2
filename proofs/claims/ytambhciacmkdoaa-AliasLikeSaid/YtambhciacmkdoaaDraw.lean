/- alias.Draw, and slices.Equal at []Alias where both are one: what they answer. No condition. -/
import Derived.Test.YtambhciacmkdoaaMakeW
import Derived.BigQuiet
import Derived.Deep.QuietTactic
set_option linter.unusedSimpArgs false
set_option linter.unusedVariables false
namespace Go.Proofs.Ytambhciacmkdoaa
open Go.RowKit
/-- Block g reads as levels V and places T. -/
def RS (w : World) (g n : Nat) (V T : Nat → Nat) : Prop := g < w.heap.size ∧ ∀ i, i < n → w.cell? ⟨g, i * 2, none⟩ = some (.int .i64 (V i : Nat)) ∧ w.cell? ⟨g, i * 2 + 1, none⟩ = some (.int .i64 (T i : Nat))
theorem OS.rs {w : World} {base g n : Nat} {V T : Nat → Nat} (h : OS w base g n V T) : RS w g n V T := ⟨(World.ownsRow.lt h _ rfl).2, fun i hi => ⟨h.level hi, h.who hi⟩⟩
theorem RS.below {w w' : World} {B g n : Nat} {V T : Nat → Nat} (h : RS w g n V T) (hb : Below B w w') (hB : w.heap.size ≤ B) : RS w' g n V T :=
  ⟨Nat.lt_of_lt_of_le h.1 hb.size, fun i hi => ⟨(World.cell?_of_block (hb.block g (Nat.lt_of_lt_of_le h.1 hB))).trans (h.2 i hi).1, (World.cell?_of_block (hb.block g (Nat.lt_of_lt_of_le h.1 hB))).trans (h.2 i hi).2⟩⟩
theorem RS.alloc {w : World} {g n : Nat} {V T : Nat → Nat} (h : RS w g n V T) (o : Obj) : RS (w.alloc o) g n V T := h.below ((Below.refl _ _).alloc (Nat.le_refl _) o) (Nat.le_refl _)
set_option maxHeartbeats 800000 in
theorem draw_ok (g n : Nat) (V T : Nat → Nat) (p : Nat) (hp : p < n) (hn : n ≤ 400) (x : Int) (w : World) (h : RS w g n V T) :
    Calls Try.prog 10 #[.slice (some ⟨g, 0, none⟩) n n, .int .i64 p, .int .i64 x] w fun e w' => e = .returned (.tuple #[.int .i64 (if x < (V p : Int) then (p : Int) else (T p : Int)), .int .i64 0]) ∧ w' = w := by
  have c1 := (h.2 p hp).1
  have c2 := (h.2 p hp).2
  clear h
  generalize V p = a at *
  generalize T p = b at *
  have f1 : decide ((p : Int) < 0) = false := decide_eq_false (by omega)
  have f2 : decide ((n : Int) ≤ (p : Int)) = false := decide_eq_false (by omega)
  have f3 : decide (n ≤ p) = false := decide_eq_false (by omega)
  by_cases hx : x < (a : Int)
  · rw [if_pos hx]
    have f4 : decide (x < (a : Int)) = true := decide_eq_true hx
    go_enter Try.func10, Try.ntmps10
    go_wp2_with fail
    go_ret2
    exact ⟨rfl, rfl⟩
  · rw [if_neg hx]
    have f4 : decide (x < (a : Int)) = false := decide_eq_false hx
    go_enter Try.func10, Try.ntmps10
    go_wp2_with fail
    go_ret2
    exact ⟨rfl, rfl⟩
set_option maxHeartbeats 800000 in
theorem equalS (g g' n : Nat) (hn : n ≤ 400) (V T : Nat → Nat) (w : World) (h : RS w g n V T) (h' : RS w g' n V T) :
    Calls Try.prog 13 #[.slice (some ⟨g, 0, none⟩) n n, .slice (some ⟨g', 0, none⟩) n n] w fun e w' => e = .returned (.bool true) ∧ Below w.heap.size w w' := by
  have H := Lib.hid h.2
  have H' := Lib.hid h'.2
  clear h h'
  go_enter Try.func13, Try.ntmps13
  go_wp2_with fail
  go_loopw [13, 5] (fun iv _ wr => ∃ i q : Nat, i ≤ n ∧ iv = .int .i64 i ∧ wr = w.drewN q) (fun iv _ _ => n - (intOf iv).toNat)
  case atStart => exact ⟨0, 0, Nat.zero_le _, rfl, rfl⟩
  case round =>
    obtain ⟨i, q, hi, rfl, rfl⟩ := hrel
    by_cases hlt : i < n
    · obtain ⟨a1, a2⟩ := H.out i hlt
      obtain ⟨b1, b2⟩ := H'.out i hlt
      have g1 : ((n : Int) ≤ (i : Int)) = False := eq_false (by omega)
      have g2 : (n ≤ i) = False := eq_false (by omega)
      generalize V i = x at *
      generalize T i = y at *
      go_wp2_with fail
      go_quiet (fail)
      go_wp2_with fail
      exact ⟨⟨i + 1, _, by omega, by go_num, rfl⟩, by simp [intOf]; omega⟩
    · obtain rfl : i = n := by omega
      go_wp2_with fail
      go_ret
      exact ⟨rfl, (Below.refl _ _).drewN q⟩
end Go.Proofs.Ytambhciacmkdoaa
