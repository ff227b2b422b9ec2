/- bottom.Right of a list in order: true. No condition. -/
import Derived.Test.YticodfdonpookaaMx
set_option linter.unusedSimpArgs false
set_option linter.unusedVariables false
set_option maxRecDepth 20000
namespace Go.Proofs.Yticodfdonpookaa
open Go.RowKit
def us (xs : List (BitVec 64)) : List Int := xs.map U
theorem us_len (xs : List (BitVec 64)) : (us xs).length = xs.length := by simp [us]
theorem us_get (xs : List (BitVec 64)) (k : Nat) : (us xs).getD k 0 = U (xs.getD k 0#64) := by
  unfold us
  by_cases h : k < xs.length
  · simp [List.getD_eq_getElem?_getD, h]
  · simp [List.getD_eq_getElem?_getD, List.getElem?_eq_none (Nat.not_lt.1 h), U]
/-- In the order that s gives, no two alike. -/
def Asc (s : BitVec 64) (xs : List (BitVec 64)) : Prop := xs.Pairwise fun x y => U (rk s x) < U (rk s y)
theorem Asc.adj {s : BitVec 64} {xs : List (BitVec 64)} (h : Asc s xs) (k : Nat) (hk : k + 1 < xs.length) : U (rk s (xs.getD k 0#64)) < U (rk s (xs.getD (k + 1) 0#64)) := by
  have := List.pairwise_iff_getElem.1 h k (k + 1) (by omega) hk (by omega)
  rw [List.getD_eq_getElem?_getD, List.getElem?_eq_getElem (by omega), List.getD_eq_getElem?_getD, List.getElem?_eq_getElem hk]
  exact this
set_option maxHeartbeats 1600000 in
theorem right_any (s : BitVec 64) (room : Int) (v : Value) (xs : List (BitVec 64)) (w : World) (h : Rd w v (us xs)) (h1 : 1 ≤ room ∧ room ≤ 400) (h2 : (xs.length : Int) ≤ room) (h3 : Asc s xs) :
    Calls Try.prog 15 #[.int .u64 (U s), .int .i64 room, v] w fun e w' => e = .returned (.bool true) ∧ ∃ q, w' = w.drewN q := by
  obtain ⟨a, cap, rfl, -, -, hop⟩ := h.open
  obtain ⟨n, hn⟩ : ∃ n, xs.length = n := ⟨_, rfl⟩
  rw [us_len, hn] at hop ⊢
  rw [hn] at h2
  have HN := Lib.hid hn
  have HOP := Lib.hid hop
  have HA := Lib.hid h3
  have HR : Hid (∀ x (X : World) m, Calls Try.prog 27 #[.int .u64 (U s), .int .u64 (U x)] (X.drewN m) fun e w' => e = .returned (.int .u64 (U (rk s x))) ∧ ∃ m', w' = X.drewN m') := fun x X m => by
    refine (rank_any s x _).mono ?_
    rintro e w' ⟨rfl, rfl⟩
    exact ⟨rfl, m, rfl⟩
  have t1 : decide (room < 1) = false := decide_eq_false (by omega)
  have t2 : decide ((400 : Int) < room) = false := decide_eq_false (by omega)
  have t3 : decide (room < (n : Int)) = false := decide_eq_false (by omega)
  have hn4 : n ≤ 400 := by omega
  clear h hop hn h3
  go_enter Try.func15, Try.ntmps15
  go_wp2_with fail
  clear t1 t2 t3 h1 h2
  go_loopw [7] (fun iv wr => ∃ k : Nat, 1 ≤ k ∧ k ≤ n + 1 ∧ iv = .int .i64 k ∧ Hid (∃ q, wr = w.drewN q)) (fun iv _ => n + 1 - (intOf iv).toNat)
  case atStart => exact ⟨1, by omega, by omega, rfl, ⟨0, rfl⟩⟩
  case round =>
    obtain ⟨k, hk1, hk, rfl, HWR⟩ := hrel
    obtain ⟨q, hq⟩ := HWR.out
    have HQ := Lib.hid hq
    by_cases hkn : k < n
    · obtain ⟨j, hj⟩ : ∃ j, k = j + 1 := ⟨k - 1, by omega⟩
      obtain ⟨b, off, rfl, hb, hc⟩ := HOP.out k hkn
      have c1 : wr.cell? ⟨b, off + k, none⟩ = some (.int .u64 (U (xs.getD k 0#64))) := by rw [← us_get, hq]; exact hc k hkn
      have c2 : wr.cell? ⟨b, off + j, none⟩ = some (.int .u64 (U (xs.getD j 0#64))) := by rw [← us_get, hq]; exact hc j (by omega)
      have had := HA.out.adj j (by rw [HN.out]; omega)
      rw [← hj] at had
      have H1 := Lib.hid (HR.out (xs.getD k 0#64) wr)
      have H2 := Lib.hid (HR.out (xs.getD j 0#64) wr)
      have t1 : decide (U (rk s (xs.getD k 0#64)) ≤ U (rk s (xs.getD j 0#64))) = false := decide_eq_false (by omega)
      have q1 : IntKind.i64.wrap ((k : Int) - 1) = (j : Int) := by rw [IntKind.wrap_i64]; omega
      have q2 : IntKind.i64.wrap (k : Int) = (k : Int) := by rw [IntKind.wrap_i64]; omega
      have q3 : IntKind.i64.wrap (j : Int) = (j : Int) := by rw [IntKind.wrap_i64]; omega
      have hkI : (k : Int) < (n : Int) := by omega
      have p1 : (0 ≤ (k : Int) ∧ (k : Int) < (n : Int)) = True := eq_true ⟨by omega, by omega⟩
      have p2 : (0 ≤ (j : Int) ∧ (j : Int) < (n : Int)) = True := eq_true ⟨by omega, by omega⟩
      have hjn : j < n := by omega
      clear hc had hj hb HWR hq
      generalize U (rk s (xs.getD k 0#64)) = rkk at *
      generalize U (rk s (xs.getD j 0#64)) = rkj at *
      generalize U (xs.getD k 0#64) = xk at *
      generalize U (xs.getD j 0#64) = xj at *
      generalize hss : U s = ss at *
      clear hss HA
      go_wp2_with fail
      go_quiet ((go_at_call 27; first | (with_reducible exact H1.out _) | (with_reducible exact H2.out _)))
      go_wp2_with fail
      go_roundw
      case rel => exact ⟨k + 1, by omega, by omega, by go_num, by
        obtain h := HQ.out
        exact ⟨_, by rw [h, World.drewN_drewN]⟩⟩
      case measure => simp [intOf]; omega
    · have hkI : ¬ (k : Int) < (n : Int) := by omega
      clear hq
      go_wp2_with fail
      go_ret
      exact ⟨rfl, q, HQ.out⟩
end Go.Proofs.Yticodfdonpookaa
