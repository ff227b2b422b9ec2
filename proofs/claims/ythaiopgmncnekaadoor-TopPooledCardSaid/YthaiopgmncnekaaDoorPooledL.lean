/- TopPooled: what the walk leans on: a tape that is read, a box that turns, a list of those who come. No condition. -/
import Derived.Test.YthaiopgmncnekaaDoorMixTape
import Derived.Test.YthaiopgmncnekaaDoorTapeBelow
import Derived.Test.YthaiopgmncnekaaDoorPrint
import Derived.Test.YthaiopgmncnekaaDoorAl
import Derived.Test.YthaiopgmncnekaaDoorTopTextW
set_option linter.unusedSimpArgs false
set_option linter.unusedVariables false
namespace Go.Proofs.YthaiopgmncnekaaDoor.Pooled
open Go.RowKit
open Tape (RdB)
/-- All blocks of w but P lie in w' as they were. -/
def KP (P : Nat) (w w' : World) : Prop := w.heap.size ≤ w'.heap.size ∧ ∀ b, b ≠ P → b < w.heap.size → w'.heap[b]? = w.heap[b]?
theorem KP.refl (P : Nat) (w : World) : KP P w w := ⟨Nat.le_refl _, fun _ _ _ => rfl⟩
theorem KP.below {P B : Nat} {w w1 w2 : World} (h : KP P w w1) (hb : Below B w1 w2) (hB : w.heap.size ≤ B) : KP P w w2 :=
  ⟨Nat.le_trans h.1 hb.size, fun b h1 h2 => (hb.block b (by omega)).trans (h.2 b h1 h2)⟩
theorem KP.set {P : Nat} {w w1 : World} (h : KP P w w1) (j : Nat) (u : Value) : KP P w (w1.setCell ⟨P, j, none⟩ u) :=
  ⟨by simpa [World.setCell] using h.1, fun b h1 h2 => (Below.heap_setCell _ _ _ _ h1).trans (h.2 b h1 h2)⟩
theorem KP.grown {P : Nat} {w w1 w2 : World} {row : Option Nat} (h : KP P w w1) (hg : w1.grownBy w2 row) (hr : ∀ g, row = some g → w.heap.size ≤ g) : KP P w w2 :=
  ⟨Nat.le_trans h.1 hg.size, fun b h1 h2 => (hg.block b (Nat.lt_of_lt_of_le h2 h.1) (fun e => by have := hr b e.symm; omega)).trans (h.2 b h1 h2)⟩
theorem RdB.kp {P : Nat} {w w' : World} {v : Value} {zs : List Bool} (h : RdB w v zs) {r c : Int} {hv : Value} (hx : BX w P r c hv) (hs : ∃ a n k, hv = .slice a n k) (hk : KP P w w') : RdB w' v zs := by
  obtain ⟨a, cap, rfl, h1, h2, h3⟩ := h
  refine ⟨a, cap, rfl, h1, h2, ?_⟩
  rcases h3 with h3 | ⟨b, off, rfl, hlt, hc⟩
  · exact .inl h3
  · by_cases hz : zs = []
    · exact .inl hz
    · refine .inr ⟨b, off, rfl, Nat.lt_of_lt_of_le hlt hk.1, fun i hi => ?_⟩
      have hne : b ≠ P := fun e => by
        subst e
        have h0 := hc 0 (List.length_pos_iff.2 hz)
        rw [cell_of_row _ _ _ _ _ _ hx] at h0
        obtain ⟨a, n, k, rfl⟩ := hs
        match off, h0 with
        | 0, h0 => simp at h0
        | 1, h0 => simp at h0
        | 2, h0 => simp at h0
        | n + 3, h0 => simp at h0
      exact (World.cell?_of_block (hk.2 b hne hlt)).trans (hc i hi)
theorem RdB.drop {w : World} {a : Option Addr} {n c k : Nat} {zs : List Bool} (h : RdB w (.slice a n c) zs) (hk : k ≤ n) :
    (¬ c = k → RdB w (.slice (Option.map (fun x => x.add k) a) (n - k) (c - k)) (zs.drop k)) ∧ (c = k → RdB w (.slice a 0 0) (zs.drop k)) := by
  obtain ⟨a', c', he, h1, h2, h3⟩ := h
  cases he
  have hl : (zs.drop k).length = zs.length - k := List.length_drop
  refine ⟨fun hc => ⟨_, c - k, by rw [hl], by omega, by omega, ?_⟩, fun hc => ?_⟩
  · rcases h3 with rfl | ⟨b, off, rfl, hlt, hcell⟩
    · left; simp
    · right
      refine ⟨b, off + k, by simp [Addr.add], hlt, fun i hi => ?_⟩
      rw [Nat.add_assoc, hcell (k + i) (by omega)]
      simp [List.getD_eq_getElem?_getD, List.getElem?_drop]
  · subst hc
    have e : zs.drop c = [] := List.drop_eq_nil_of_le (by omega)
    rw [e]
    exact ⟨a, 0, rfl, Nat.le_refl _, Nat.zero_le _, .inl rfl⟩
/-- What a draw of a tape below n answers. -/
theorem below_c (v : Value) (z : List Bool) (n : Nat) (h1 : 1 ≤ n) (h2 : n ≤ 1099511627776) (w : World) (h : RdB w v z) :
    Calls Tryd.prog 28 #[v, .int .i64 n] w fun e w' => (e = .returned (.tuple #[.int .i64 0, .int .i64 0, .int .i64 7]) ∨ ∃ x u : Nat, x < n ∧ u ≤ z.length ∧ e = .returned (.tuple #[.int .i64 x, .int .i64 u, .int .i64 0])) ∧ w' = w := by
  refine (Tape.below_ok v z n h1 h2 w h).mono ?_
  rintro e w' ⟨he, rfl⟩
  refine ⟨?_, rfl⟩
  cases ho : Tape.bel (Tape.wid n) n (z.length + 1) z with
  | none => rw [ho] at he; exact .inl he
  | some q =>
    rw [ho] at he
    obtain ⟨q1, q2, -⟩ := Tape.bel_in _ _ _ ho
    exact .inr ⟨q.1, q.2, q1, q2, he⟩
theorem need_c (r c : Int) (a : Option Addr) (n cap : Nat) (w : World) (hr : RightP r c n) : Calls Tryd.prog 27 #[.agg #[.int .i64 r, .int .i64 c, .slice a n cap]] w fun e w' => e = .returned (.tuple #[.int .i64 (c + 1), .int .i64 0]) ∧ Below w.heap.size w w' := by
  have HR := Lib.hid (fun w => right_any r c a n cap w)
  rw [decide_eq_true hr] at HR
  obtain ⟨h1, h2, h3, h4, h5⟩ := hr
  go_enter Tryd.func27, Tryd.ntmps27
  go_wp2_with fail
  refine (HR.out _).mono ?_
  rintro e w1 ⟨rfl, hb1⟩
  have HB1 := Lib.hid (((Below.refl w.heap.size w).alloc (Nat.le_refl _) _).trans (hb1.mono (by simp)))
  have hbx : BX w1 w.heap.size r c (.slice a n cap) := (BX.new w r c _).below hb1 (by simp)
  have c1 := hbx.c1
  have HC := Lib.hid c1
  clear hb1 hbx h5
  go_wp2_with fail
  go_ret2
  exact ⟨rfl, HB1.out⟩
theorem rdc_own {w : World} {base : Nat} {v : Value} {l : List (Nat × Nat)} (h : w.ownsRow base 36 2 v l.length (comeC l)) : RdC w v (l.map intP) := by
  obtain ⟨a, cap, rfl, hc⟩ := own2_cells h
  refine ⟨a, cap, by rw [List.length_map], fun hne => ?_⟩
  obtain ⟨g, rfl, hg, hcs⟩ := hc (fun e => hne (by rw [e]; rfl))
  refine ⟨g, 0, rfl, hg, fun i hi => ?_⟩
  rw [List.length_map] at hi
  obtain ⟨h0, h1⟩ := hcs i hi
  have e : (l.map intP).getD i (0, 0) = intP (l.getD i (0, 0)) := by
    rw [List.getD_eq_getElem?_getD, List.getElem?_map, List.getD_eq_getElem?_getD, List.getElem?_eq_getElem hi]; rfl
  rw [e, Nat.zero_add]
  exact ⟨h0, h1⟩
theorem runT_app (r : Int) (p : Nat × Nat) : ∀ (s : Int × List Int) (l : List (Nat × Nat)), runT r s (l ++ [p]) = stp r (runT r s l) p
  | s, [] => rfl
  | s, q :: l => runT_app r p (stp r s q) l
theorem natP_intP (l : List (Nat × Nat)) : (l.map intP).map natP = l := by
  rw [List.map_map]
  conv => rhs; rw [← List.map_id l]
  refine List.map_congr_left fun p _ => ?_
  show (((p.1 : Int)).toNat, ((p.2 : Int)).toNat) = p
  simp
theorem step_ok {r : Int} {k : Nat} {ys : List Int} (x d : Nat) (hk : k ≤ 60) (hd : d < k + 1) : stp r ((k : Int), ys) (x, d) = ((k : Int) + 1, addL r ys x d) ∧ addE (k : Int) (d : Int) = 0 := by
  have e : addE (k : Int) (d : Int) = 0 := by unfold addE; rw [if_neg (by omega), if_neg (by omega)]
  exact ⟨if_pos e, e⟩
theorem own_ty2 {w : World} {base size : Nat} {e : TypeId} {v : Value} {n : Nat} {xs : List Value} (h : w.ownsRow base e size v n xs) {b : Nat} (hb : v.ownBlock = some b) : ∃ cs, w.heap[b]? = some (.cells cs e (0, 0)) := by
  rcases h.2 with ⟨rfl, -⟩ | ⟨g, cap, cur, rfl, hbs, hgg, -⟩
  · cases hb
  · cases hb; exact ⟨_, hgg⟩
/-- A row of another type is not touched where a row grows. -/
theorem own_other2 {w w' : World} {base base2 size : Nat} {e e2 : TypeId} {v u : Value} {n m : Nat} {xs ys : List Value} {o : Obj} (h : w.ownsRow base e 1 v n xs) (hu : w.ownsRow base2 e2 size u m ys) (hne : e ≠ e2) (hg : (w.alloc o).grownBy w' u.ownBlock) : w'.ownsRow base e 1 v n xs := by
  refine ⟨h.1, ?_⟩
  rcases h.2 with hn | ⟨g, cap, cur, rfl, hbs, hgg, rest⟩
  · exact .inl hn
  · refine .inr ⟨g, cap, cur, rfl, hbs, ?_, rest⟩
    have hlt : g < w.heap.size := by
      rcases Nat.lt_or_ge g w.heap.size with h1 | h1
      · exact h1
      · rw [Array.getElem?_eq_none h1] at hgg; cases hgg
    rw [hg.block g (by simp; omega) (fun hgv => ?_)]
    · rw [Below.heap_alloc _ _ _ hlt]; exact hgg
    · obtain ⟨cs', hcs'⟩ := own_ty2 hu hgv.symm
      rw [hgg] at hcs'
      cases hcs'
      exact hne rfl
end Go.Proofs.YthaiopgmncnekaaDoor.Pooled
