/- A map from pairs of ints to ints of the call's own. No condition. -/
import Derived.Test.YtkljkogcahmaaaaMap
import Derived.WideKeyPair
import Derived.WideKeyEntry
import Derived.WalkArith
set_option linter.unusedSimpArgs false
set_option linter.unusedVariables false
namespace Go.Proofs.Ytkljkogcahmaaaa
open Go.RowKit Go.Maps
theorem arr34 : WideMaps.ArrKey Try.prog 34 3 2 := ⟨Try.underlying34, by kernel_rfl, by kernel_rfl, by kernel_rfl⟩
theorem law34 : WideMaps.KeyLaw Try.prog 34 := arr34.law
theorem key34 : Keyed Try.prog 34 := Keyed.of_law law34
theorem zero3 (w : World) : (zeroValue 3).run Try.prog w = .ok (.int .i64 0) w := by kernel_rfl
def pr (i j : Nat) : Value := .agg #[.int .i64 (i : Int), .int .i64 (j : Int)]
def kp (i j : Nat) : Lit := .string (keyBytes [.int .i64 (i : Int), .int .i64 (j : Int)])
theorem keyOf_pr {i j : Nat} (hi : i < 1000) (hj : j < 1000) : keyOf Try.prog 34 (pr i j) = some (kp i j) :=
  WideMaps.keyOf_pair arr34 Try.underlying3 (by exact ⟨_, rfl⟩) (Go.WalkArith.wf_i64 (by omega)) (Go.WalkArith.wf_i64 (by omega))
theorem kp_inj {i j a c : Nat} (hi : i < 1000) (hj : j < 1000) (ha : a < 1000) (hc : c < 1000) (h : kp i j = kp a c) : i = a ∧ j = c := by
  have := key34.inj (keyOf_pr hi hj) (h ▸ keyOf_pr ha hc)
  simp only [pr, Value.agg.injEq, Array.mk.injEq, List.cons.injEq, Value.int.injEq, and_true, true_and] at this
  omega
theorem ok_world {α : Type} {a b : α} {w w' : World} (h : Result.ok a w = Result.ok b w') : w = w' := by injection h
theorem ok_value {α : Type} {a b : α} {w w' : World} (h : Result.ok a w = Result.ok b w') : a = b := by injection h
section
open Go.WideElems
theorem entry_look {H : Type} {P : Program} {w : World} {t k e : TypeId} {R : Value → Option (DataW H × List MemPlace)} {b : Nat} {es : Array MapEntry} {clock : Nat} (K : WideMaps.KeyLaw P k) (ht : P.underlying t = some (.map k e)) {z : Value} (hz : ∀ u : World, (zeroValue e).run P u = .ok z u) (hb : w.heap[b]? = some (.map es clock)) (F : Fit P k R es clock)
    {key : Value} {kl : Lit} (hkey : keyOf P k key = some kl) {v r : Value} {w1 : World} (hl : (Instr.lookup t (.map (some b)) key false).run P w = .ok v w) (he : (Instr.mapEntry t (.map (some b)) key).run P w = .ok r w1) :
    (Instr.lookup t (.map (some b)) key false).run P w1 = .ok v w1 := by
  rcases K.find w hkey es.toList F.keys with ⟨h1, h2⟩ | ⟨j, e0, h1, h2, h3⟩
  · have e1 : (Instr.mapEntry t (.map (some b)) key).run P w = .ok (.tuple #[z, goInt clock]) (ChangeMaps.setBlock w b (.map (es.push ⟨key, z, clock⟩) (clock + 1))) := by
      simp [Instr.mapEntry, run_underlying ht, MapKept.run_getObj_map hb, K.check w false hkey, h1, hz, MapKept.run_setObj_map _ hb, Result.andThen, ChangeMaps.setBlock]
    have e2 : (Instr.lookup t (.map (some b)) key false).run P w = .ok z w := by
      simp [Instr.lookup, run_underlying ht, MapKept.run_getObj_map hb, K.check w _ hkey, h1, hz, Result.andThen]
    rw [e1] at he
    rw [e2] at hl
    have he := ok_world he
    have hl := ok_value hl
    subst he hl
    have hb1 : (ChangeMaps.setBlock w b (.map (es.push ⟨key, z, clock⟩) (clock + 1))).heap[b]? = some (.map (es.push ⟨key, z, clock⟩) (clock + 1)) := ChangeMaps.heap_setBlock_same hb _
    generalize ChangeMaps.setBlock w b (.map (es.push ⟨key, z, clock⟩) (clock + 1)) = w1 at *
    rcases K.find w1 hkey (es.push ⟨key, z, clock⟩).toList (by
      intro x hx
      simp only [Array.toList_push, List.mem_append, List.mem_singleton] at hx
      rcases hx with hx | rfl
      · exact F.keys x hx
      · exact ⟨kl, hkey⟩) with ⟨g1, g2⟩ | ⟨j, e0, g1, g2, g3⟩
    · exact absurd rfl (g2 ⟨key, z, clock⟩ (by simp))
    · have hm := List.mem_of_getElem? g2
      simp only [Array.toList_push, List.mem_append, List.mem_singleton] at hm
      have ev : e0.val = z := by
        rcases hm with hm | rfl
        · exact absurd g3 (h2 e0 hm)
        · rfl
      rw [ev] at g1
      have g1' := g1
      rw [Array.toList_push] at g1'
      simp [Instr.lookup, run_underlying ht, MapKept.run_getObj_map hb1, K.check w1 _ hkey, g1', hz, Result.andThen]
  · have hj : es[j]? = some e0 := by simpa using h2
    have hsame : es.modify j (fun e => { e with key := key }) = es := by
      apply Array.ext'
      rw [Array.toList_modify, ChangeMaps.modify_eq_set _ _ _ _ h2]
      have : ({ e0 with key := key } : MapEntry) = e0 := by rw [← h3]
      rw [this]
      exact set_self _ _ _ h2
    have e1 : (Instr.mapEntry t (.map (some b)) key).run P w = .ok (.tuple #[e0.val, goInt e0.born]) (ChangeMaps.setBlock w b (.map es clock)) := by
      simp [Instr.mapEntry, run_underlying ht, MapKept.run_getObj_map hb, K.check w false hkey, h1, hj, h3, K.stays w hkey, hsame, MapKept.run_setObj_map _ hb, Result.andThen, ChangeMaps.setBlock]
    rw [e1] at he
    have he := ok_world he
    have e3 : ChangeMaps.setBlock w b (.map es clock) = w := by
      have : w.heap.setIfInBounds b (.map es clock) = w.heap := by
        apply Array.ext_getElem?
        intro i
        by_cases hi : i = b
        · subst hi
          exact (ChangeMaps.heap_setBlock_same hb _).trans hb.symm
        · exact ChangeMaps.heap_setBlock_other hb _ hi
      unfold ChangeMaps.setBlock
      rw [this]
    rw [← he, e3]
    exact hl
end
def MI (w : World) (b n N : Nat) (C : Nat → Nat → Nat) : Prop :=
  N < 1000 ∧ ∃ D : DataW Unit, w.ownsMap Try.prog 34 (plainElem Try.prog 3) b n D ∧ ∀ i j, i < N → j < N → D.atKey (kp i j) (.lit (.int .i64 0)) = .lit (.int .i64 (C i j))
theorem MI.made (w : World) (N : Nat) (hN : N < 1000) : MI (w.alloc (.map #[] 0)) w.heap.size 0 N (fun _ _ => 0) :=
  ⟨hN, .map [], World.ownsMap_made _ _ _ _, fun i j _ _ => by simp [DataW.atKey]⟩
theorem MI.lt {w : World} {b n N : Nat} {C} (h : MI w b n N C) : b < w.heap.size := by
  obtain ⟨_, D, hD, _⟩ := h; exact hD.lt
theorem MI.mono {w : World} {b n N : Nat} {C} (h : MI w b n N C) {n' : Nat} (hn : n ≤ n') : MI w b n' N C := by
  obtain ⟨h0, D, hD, hS⟩ := h; exact ⟨h0, D, hD.mono hn, hS⟩
theorem MI.congr {w : World} {b n N : Nat} {C C' : Nat → Nat → Nat} (h : MI w b n N C) (he : ∀ i j, i < N → j < N → C i j = C' i j) : MI w b n N C' := by
  obtain ⟨h0, D, hD, hS⟩ := h
  exact ⟨h0, D, hD, fun i j hi hj => by rw [hS i j hi hj, he i j hi hj]⟩
theorem MI.kept {w w' : World} {b n N B : Nat} {C} (h : MI w b n N C) (hb : Below B w w') (hB : b < B) : MI w' b n N C := by
  obtain ⟨h0, D, hD, hS⟩ := h
  obtain ⟨es, clock, h1, h2⟩ := hD
  exact ⟨h0, D, ⟨es, clock, (hb.block b hB).trans h1, h2⟩, hS⟩
theorem MI.look {w : World} {b n N : Nat} {C} (h : MI w b n N C) {i j : Nat} (hi : i < N) (hj : j < N) : (Instr.lookup 33 (.map (some b)) (pr i j) false).run Try.prog w = .ok (.int .i64 (C i j)) w := by
  obtain ⟨h0, D, hD, hS⟩ := h
  obtain ⟨c, hr, hat, -⟩ := hD.lookup_int key34 Try.underlying33 Try.underlying3 (zero3 w) (keyOf_pr (show i < 1000 by omega) (show j < 1000 by omega))
  rw [hS i j hi hj] at hat
  simp only [DataW.lit.injEq, Lit.int.injEq, true_and] at hat
  rw [hr, ← hat]
def inc (C : Nat → Nat → Nat) (i j : Nat) : Nat → Nat → Nat := fun a c => if a = i ∧ c = j then C a c + 1 else C a c
theorem MI.incr {w : World} {b n N : Nat} {C} (h : MI w b n N C) {i j : Nat} (hi : i < N) (hj : j < N) (hn : n < maxLen) (hC : C i j < 4611686018427387904) :
    ∃ v0 st w1 w2, (Instr.mapEntry 33 (.map (some b)) (pr i j)).run Try.prog w = .ok (.tuple #[v0, .int .i64 st]) w1 ∧
      (Instr.entryStore 33 (.map (some b)) (.int .i64 st) (.int .i64 ((C i j + 1 : Nat) : Int))).run Try.prog w1 = .ok () w2 ∧ MI w2 b (n + 1) N (inc C i j) ∧ w.grownBy w2 (some b) ∧ (Instr.lookup 33 (.map (some b)) (pr i j) false).run Try.prog w1 = .ok (.int .i64 (C i j)) w1 := by
  have hlk := h.look hi hj
  obtain ⟨h0, D, hD, hS⟩ := h
  have hkey := keyOf_pr (show i < 1000 by omega) (show j < 1000 by omega)
  have hIs := hD.isMap
  obtain ⟨w', hrun, hown, hgr⟩ := hD.update key34 Try.underlying33 hn hkey (val := .int .i64 ((C i j + 1 : Nat) : Int)) (plainElem_int Try.underlying3 (Go.WalkArith.wf_i64 (by omega)))
  obtain ⟨es, clock, hb, F, hs, hDe⟩ := hD
  obtain ⟨v0, st, es1, clock1, hE, -, hSt⟩ := WideElems.entry_then_store law34 Try.underlying33 zero3 hb F hkey
  obtain ⟨es', clock', r1, r2⟩ := hSt (ChangeMaps.setBlock w b (.map es1 clock1)) (.int .i64 ((C i j + 1 : Nat) : Int)) (ChangeMaps.heap_setBlock_same hb _)
  refine ⟨v0, st, _, _, hE, r1, ?_, ?_, entry_look law34 Try.underlying33 zero3 hb F hkey hlk hE⟩
  · have e1 : ChangeMaps.setBlock (ChangeMaps.setBlock w b (.map es1 clock1)) b (.map es' clock') = w' := by
      rw [hrun] at r2
      have : w' = ChangeMaps.setBlock w b (.map es' clock') := by injection r2
      rw [this]; simp [ChangeMaps.setBlock]
    rw [e1]
    refine ⟨h0, _, hown, fun a c ha hc => ?_⟩
    unfold inc
    by_cases e : a = i ∧ c = j
    · obtain ⟨rfl, rfl⟩ := e
      rw [if_pos ⟨rfl, rfl⟩]
      exact Maps.atKey_put_same hIs (show WideAt.IsKeyLit (kp a c) from trivial) _ _
    · rw [if_neg e, Maps.atKey_put_other (by
        intro h
        exact e (kp_inj (by omega) (by omega) (by omega) (by omega) h))]
      exact hS a c ha hc
  · have e1 : ChangeMaps.setBlock (ChangeMaps.setBlock w b (.map es1 clock1)) b (.map es' clock') = w' := by
      rw [hrun] at r2
      have : w' = ChangeMaps.setBlock w b (.map es' clock') := by injection r2
      rw [this]; simp [ChangeMaps.setBlock]
    rw [e1]
    exact hgr
end Go.Proofs.Ytkljkogcahmaaaa
