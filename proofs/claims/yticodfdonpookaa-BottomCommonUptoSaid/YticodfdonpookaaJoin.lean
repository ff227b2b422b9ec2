/- bottom.Join of two lists in order: the sketch of both. Condition: not both empty. -/
import Derived.Test.YticodfdonpookaaSrt
import Derived.Test.YticodfdonpookaaConcU
set_option linter.unusedSimpArgs false
set_option linter.unusedVariables false
set_option maxRecDepth 20000
namespace Go.Proofs.Yticodfdonpookaa
open Go.RowKit
theorem min2_run (a b : Int) (w : World) : (Builtin.min_ #[3, 3] 3 #[.int .i64 a, .int .i64 b]).run Try.prog w = .ok (.int .i64 (min a b)) w := by
  have h2 : ∀ (x y : Int) (w : World), (Builtin.min2 (.int .i64 x) (.int .i64 y)).run Try.prog w = .ok (.int .i64 (min x y)) w := fun x y w => by
    by_cases h : y < x
    · simp [Builtin.min2, h]; omega
    · simp [Builtin.min2, h]; omega
  simp [Builtin.min_, List.foldlM, h2, Sem.run_bind, Result.andThen]
theorem clip_any (a : Option Addr) (n c : Nat) (w : World) (h : n ≤ c) (hc : c ≤ 9223372036854775807) : Calls Try.prog 28 #[.slice a n c] w fun e w' => e = .returned (.slice a n n) ∧ w = w' := by
  go_enter Try.func28, Try.ntmps28
  go_wp2_with fail
  go_ret
  exact ⟨rfl, rfl⟩
set_option maxHeartbeats 1600000 in
theorem join_any (s : BitVec 64) (room : Int) (a1 a2 : Option Addr) (n1 c1 n2 c2 : Nat) (xs ys : List (BitVec 64)) (w : World) (h1 : Rd w (.slice a1 n1 c1) (us xs)) (h2 : Rd w (.slice a2 n2 c2) (us ys))
    (hn1 : a1 = none → n1 = 0 ∧ c1 = 0) (hn2 : a2 = none → n2 = 0 ∧ c2 = 0) (hr : 1 ≤ room ∧ room ≤ 400) (l1 : (xs.length : Int) ≤ room) (l2 : (ys.length : Int) ≤ room) (hx : Asc s xs) (hy : Asc s ys) (h0 : 0 < n1 + n2) :
    Calls Try.prog 11 #[.int .u64 (U s), .int .i64 room, .slice a1 n1 c1, .slice a2 n2 c2] w fun e w' => (∃ g k, e = .returned (.tuple #[.slice (some ⟨g, 0, none⟩) k k, .int .i64 0]) ∧ Rd w' (.slice (some ⟨g, 0, none⟩) k k) (us (sk s room.toNat (xs ++ ys)))) ∧ Below w.heap.size w w' := by
  have e1 : (us xs).length = n1 := by
    obtain ⟨_, _, he, -⟩ := h1.open
    injection he with _ h5 _
    exact h5.symm
  have e2 : (us ys).length = n2 := by
    obtain ⟨_, _, he, -⟩ := h2.open
    injection he with _ h5 _
    exact h5.symm
  rw [us_len] at e1 e2
  obtain ⟨W, hW⟩ : ∃ W, w.alloc (.cells #[.int .u64 (U s)] 22) = W := ⟨_, rfl⟩
  have hBW : Below w.heap.size w W := by rw [← hW]; exact (Below.refl _ _).alloc (Nat.le_refl _) _
  have HBW := Lib.hid hBW
  have r1 := h1.below hBW (Nat.le_refl _)
  have r2 := h2.below hBW (Nat.le_refl _)
  have HC0 : Hid (∀ q, (W.drewN q).cell? ⟨w.heap.size, 0, none⟩ = some (.int .u64 (U s))) := fun q => by
    show W.cell? _ = _
    rw [← hW, cell_of_row _ _ _ _ 22 (0, 0) (heap_alloc_new w _)]; rfl
  have HSW : Hid (w.heap.size < W.heap.size) := by show _ < _; rw [← hW]; simp
  have HX := Lib.hid (right_any s room _ xs W r1 hr l1 hx)
  have HY := Lib.hid (fun q => right_any s room _ ys (W.drewN q) r2 hr l2 hy)
  have HCO : Hid (∀ q, Calls Try.prog 10 #[.slice (some ⟨W.heap.size, 0, none⟩) 2 2] ((W.drewN q).alloc (.cells #[.slice a1 n1 c1, .slice a2 n2 c2] 23)) fun e w' => Below W.heap.size W w' ∧ ∃ v, e = .returned v ∧ w'.ownsRow W.heap.size 22 1 v (n1 + n2) ((us (xs ++ ys)).map (Value.int .u64))) := fun q => by
    obtain ⟨w5, h5⟩ : ∃ X, W.drewN q = X := ⟨_, rfl⟩
    have hb5 : Below W.heap.size W w5 := by rw [← h5]; exact (Below.refl _ _).drewN q
    have hz : w5.heap.size = W.heap.size := by rw [← h5]; rfl
    rw [h5, ← hz]
    have hb6 : Below w5.heap.size w5 (w5.alloc (.cells #[.slice a1 n1 c1, .slice a2 n2 c2] 23)) := (Below.refl _ _).alloc (Nat.le_refl _) _
    have hbb := hb5.trans (hb6.mono hb5.size)
    refine (concatu_any w5.heap.size n1 c1 n2 c2 a1 a2 (us xs) (us ys) _ (r1.below hbb (Nat.le_refl _)) (r2.below hbb (Nat.le_refl _)) hn1 hn2 ?_ ?_ (by simp) (by omega)).mono ?_
    · rw [cell_of_row _ _ _ _ 23 (0, 0) (heap_alloc_new w5 _)]; rfl
    · rw [cell_of_row _ _ _ _ 23 (0, 0) (heap_alloc_new w5 _)]; rfl
    · rintro e w' ⟨hb, v, rfl, hv⟩
      refine ⟨by rw [hz]; exact hbb.trans (hb.mono (by simp; omega)), v, rfl, ?_⟩
      rw [show us (xs ++ ys) = us xs ++ us ys by simp [us]]
      exact own_base hv (by simp)
  have HLN : Hid ((xs ++ ys).length = n1 + n2) := by show _ = _; rw [List.length_append, e1, e2]
  obtain ⟨k, hk⟩ : ∃ k, (sk s room.toNat (xs ++ ys)).length = k := ⟨_, rfl⟩
  obtain ⟨m, hm⟩ : ∃ m, (dd s (xs ++ ys)).length = m := ⟨_, rfl⟩
  have hkm : (k : Int) = min room (m : Int) := by
    rw [← hk, ← hm]; unfold sk; rw [List.length_take]; omega
  have HM := Lib.hid hm
  have emin : ∀ w : World, (Builtin.min_ #[3, 3] 3 #[.int .i64 room, .int .i64 (m : Int)]).run Try.prog w = .ok (.int .i64 (k : Int)) w := fun w => by rw [min2_run, hkm]
  have hkm' : k ≤ m := by omega
  have hm4 : n1 + n2 ≤ 800 := by omega
  have HWW := Lib.hid hW
  clear hW hBW r1 r2 h1 h2 hn1 hn2 hx hy e1 e2 l1 l2 hkm hm
  go_enter Try.func11, Try.ntmps11
  go_wp2_with fail
  rw [HWW.out]
  refine HX.out.mono ?_
  rintro e w2 ⟨rfl, q2, rfl⟩
  have c0 := HC0.out q2
  have HYq := Lib.hid (HY.out q2)
  clear HX HY HWW
  go_wp2_with fail
  refine HYq.out.mono ?_
  rintro e w3 ⟨rfl, q3, rfl⟩
  rw [World.drewN_drewN]
  generalize q2 + q3 = q
  clear c0
  have HCq := Lib.hid (HCO.out q)
  clear HYq HCO
  go_wp2_with fail
  refine HCq.out.mono ?_
  rintro e w5 ⟨hb5, v5, rfl, ho5⟩
  have HB5 := Lib.hid (HBW.out.trans (hb5.mono HBW.out.size))
  have hc5 : w5.cell? ⟨w.heap.size, 0, none⟩ = some (.int .u64 (U s)) := (World.cell?_of_block (hb5.block _ HSW.out)).trans (HC0.out 0)
  have HSO := Lib.hid (sort_own s w.heap.size W.heap.size v5 (n1 + n2) (xs ++ ys) w5 ho5 HLN.out h0 HSW.out (by have := hb5.size; have := HSW.out; omega) hc5 (by omega))
  clear hb5 ho5 hc5 HCq HC0
  go_wp2_with fail
  refine HSO.out.mono ?_
  rintro e w6 ⟨rfl, zs, hp, hwk, ho6, hb6⟩
  have HB6 := Lib.hid (HB5.out.trans (hb6.mono (Nat.le_of_lt HSW.out)))
  have hdd : dd s zs = dd s (xs ++ ys) := dd_congr fun x => hp.mem_iff
  have HCP := Lib.hid (cpt_own s W.heap.size v5 (n1 + n2) zs w6 ho6 (by rw [hp.length_eq]; exact HLN.out) h0 hwk (by omega))
  rw [hdd, HM.out] at HCP
  clear hb6 ho6 hp hwk hdd HSO
  go_wp2_with fail
  refine HCP.out.mono ?_
  rintro e w7 ⟨g, cap, rfl, hle, hcap, hcm, ho7, hb7⟩
  have HB7 := Lib.hid (HB6.out.trans (hb7.mono (Nat.le_of_lt HSW.out)))
  have HRD := Lib.hid (Rd.own ho7)
  have hkc : k ≤ cap := by omega
  have HCL := Lib.hid (clip_any (some ⟨g, 0, none⟩) k cap w7 hkc hcm)
  have p0 : (0 ≤ (k : Int) ∧ (k : Int) ≤ (cap : Int)) = True := eq_true ⟨by omega, by omega⟩
  clear hb7 ho7 HCP
  go_wp2_with fail
  refine HCL.out.mono ?_
  rintro e w8 ⟨rfl, rfl⟩
  have HFI : Hid (Rd w7 (.slice (some ⟨g, 0, none⟩) k k) (us (sk s room.toNat (xs ++ ys)))) := by
    have h9 := HRD.out.take hkm'
    have e9 : (us (dd s (xs ++ ys))).take k = us (sk s room.toNat (xs ++ ys)) := by
      unfold us sk
      rw [← List.map_take, ← hk]
      unfold sk
      rw [List.length_take]
      refine congrArg (List.map U) ?_
      rw [List.take_eq_take_iff]
      omega
    rw [e9] at h9
    obtain ⟨a', c', he, g1, g2, g3⟩ := h9
    injection he with e1 e2 e3
    exact ⟨_, k, by rw [← e2], by omega, by unfold maxLen; omega, by rw [e1]; exact g3⟩
  clear HRD HCL
  go_wp2_with fail
  go_ret2
  exact ⟨⟨g, k, rfl, HFI.out⟩, HB7.out⟩
end Go.Proofs.Yticodfdonpookaa
