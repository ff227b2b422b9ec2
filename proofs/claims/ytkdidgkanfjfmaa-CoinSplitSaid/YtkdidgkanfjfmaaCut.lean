/- Slices of bools cut: what they read as. No condition. -/
import Derived.Test.YtkdidgkanfjfmaaBl
set_option linter.unusedSimpArgs false
set_option linter.unusedVariables false
namespace Go.Proofs.Ytkdidgkanfjfmaa
open Go.RowKit
theorem RdB.app {w : World} {a : Option Addr} {n c : Nat} {zs : List Bool} (h : RdB w (.slice a n c) zs) :
    zs.length = n ∧ n ≤ c ∧ c ≤ 9223372036854775807 ∧ (∀ ad, a = some ad → ∀ j u, (zs.map (Value.bool))[j]? = some u → w.cell? (ad.add j) = some u) := by
  obtain ⟨a', c', he, h1, h2, h3⟩ := h
  cases he
  refine ⟨rfl, h1, by unfold maxLen at h2; exact h2, ?_⟩
  intro ad had j u hu
  subst had
  rcases h3 with rfl | ⟨b, off, he, hlt, hc⟩
  · simp at hu
  · cases he
    rw [List.getElem?_map, Option.map_eq_some_iff] at hu
    obtain ⟨x, hx, rfl⟩ := hu
    have hj : j < zs.length := (List.getElem?_eq_some_iff.1 hx).1
    have := hc j hj
    rw [Go.WideShapes.add_plain]
    rw [this, List.getD_eq_getElem?_getD, hx]; rfl
theorem RdB.take {w : World} {a : Option Addr} {n c k : Nat} {zs : List Bool} (h : RdB w (.slice a n c) zs) (hk : k ≤ n) : RdB w (.slice a k c) (zs.take k) := by
  obtain ⟨a', c', he, h1, h2, h3⟩ := h
  cases he
  have hl : (zs.take k).length = k := by rw [List.length_take]; omega
  refine ⟨a, c, by rw [hl], by omega, h2, ?_⟩
  rcases h3 with rfl | ⟨b, off, he, hlt, hc⟩
  · left; simp
  · right
    refine ⟨b, off, he, hlt, fun i hi => ?_⟩
    rw [hc i (by omega)]
    simp [List.getD_eq_getElem?_getD, List.getElem?_take, show i < k by omega]
theorem RdB.drop {w : World} {a : Option Addr} {n c k : Nat} {zs : List Bool} (h : RdB w (.slice a n c) zs) (hk : k ≤ n) :
    (¬ c = k → RdB w (.slice (Option.map (fun x => x.add k) a) (n - k) (c - k)) (zs.drop k)) ∧ (c = k → RdB w (.slice a 0 0) (zs.drop k)) := by
  obtain ⟨a', c', he, h1, h2, h3⟩ := h
  cases he
  have hl : (zs.drop k).length = zs.length - k := List.length_drop
  refine ⟨fun hc => ⟨_, c - k, by rw [hl], by omega, by omega, ?_⟩, fun hc => ?_⟩
  · rcases h3 with rfl | ⟨b, off, rfl, hlt, hcell⟩
    · left; simp
    · right
      refine ⟨b, off + k, by simp [Addr.add], hlt, fun i hi => ?_⟩
      rw [Nat.add_assoc, hcell (k + i) (by omega)]
      simp [List.getD_eq_getElem?_getD, List.getElem?_drop]
  · subst hc
    have e : zs.drop c = [] := List.drop_eq_nil_of_le (by omega)
    rw [e]
    exact ⟨a, 0, rfl, Nat.le_refl _, Nat.zero_le _, .inl rfl⟩
end Go.Proofs.Ytkdidgkanfjfmaa
