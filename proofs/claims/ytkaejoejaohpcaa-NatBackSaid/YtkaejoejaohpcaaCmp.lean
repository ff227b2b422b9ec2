/- nat.compare: what it answers. Condition: two numbers, of at most 64 words. -/
import Derived.Test.YtkaejoejaohpcaaSmall
import Derived.Test.YtkaejoejaohpcaaCmpL
import Derived.Test.YtkaejoejaohpcaaAdd
set_option linter.unusedSimpArgs false
set_option linter.unusedVariables false
namespace Go.Proofs.Ytkaejoejaohpcaa
open Go.RowKit
theorem min2_run (a b : Int) (w : World) : (Builtin.min_ #[3, 3] 3 #[.int .i64 a, .int .i64 b]).run Try.prog w = .ok (.int .i64 (min a b)) w := by
  have h2 : ∀ (x y : Int) (w : World), (Builtin.min2 (.int .i64 x) (.int .i64 y)).run Try.prog w = .ok (.int .i64 (min x y)) w := fun x y w => by
    have e : (if y < x then y else x) = min x y := by split <;> omega
    simp [Builtin.min2, e]
  simp [Builtin.min_, List.foldlM, h2, Sem.run_bind, Result.andThen]
set_option maxHeartbeats 1000000 in
theorem compare_any (a : Option Addr) (n c : Nat) (la : List Nat) (a2 : Option Addr) (m c2 : Nat) (lb : List Nat) (w : World) (ha : Rd w (.slice a n c) (castN la)) (hb : Rd w (.slice a2 m c2) (castN lb))
    (ca : Canon la) (cb : Canon lb) (h64 : n ≤ 64) (h64' : m ≤ 64) :
    Calls Try.prog 22 #[.slice a n c, .slice a2 m c2] w fun e w' => Below w.heap.size w w' ∧ ∃ z : Int, e = .returned (.int .i64 z) ∧ (z < 0 ↔ val la < val lb) := by
  obtain ⟨hla, -, -⟩ := ha.lenEq
  obtain ⟨hlb, -, -⟩ := hb.lenEq
  by_cases hnm : n = m
  · subst hnm
    have hne : ((n : Int) != (n : Int)) = false := by simp
    have hw1 : IntKind.i64.wrap ((n : Int) - 1) = (n : Int) - 1 := by rw [IntKind.wrap_i64]; omega
    have HLA : Hid (la.length = n) := hla
    have HLB : Hid (lb.length = n) := hlb
    have HWA := Lib.hid ca.wd
    have HWB := Lib.hid cb.wd
    have HA := Lib.hid ha
    have HB := Lib.hid hb
    have HD0 : Hid (la.drop n = lb.drop n) := by show _ = _; rw [List.drop_of_length_le (by omega), List.drop_of_length_le (by omega)]
    clear ha hb hla hlb ca cb
    go_enter Try.func22, Try.ntmps22
    go_wp2_with fail
    go_loopw [5] (fun kv wr => ∃ (z : Int) (k : Nat), k ≤ n ∧ kv = .int .i64 z ∧ z = (k : Int) - 1 ∧ Hid (la.drop k = lb.drop k) ∧ Hid (Below w.heap.size w wr)) (fun kv _ => (intOf kv + 1).toNat)
    case atStart => exact ⟨_, n, Nat.le_refl _, rfl, rfl, HD0.out, Below.refl _ _⟩
    case round =>
      clear HD0
      obtain ⟨z, k, hk, rfl, hz, HD, HBW⟩ := hrel
      rcases Nat.eq_zero_or_pos k with h0 | h0
      · subst h0
        obtain rfl : z = -1 := by omega
        have HE : Hid (la = lb) := HD.out
        clear hz
        go_wp2_with fail
        go_ret
        exact ⟨HBW.out, 0, rfl, by rw [HE.out]; simp⟩
      · obtain ⟨q, rfl⟩ : ∃ q, k = q + 1 := ⟨k - 1, by omega⟩
        obtain rfl : z = (q : Int) := by omega
        obtain ⟨b1, o1, rfl, -, hc1⟩ := (HA.out.below HBW.out (Nat.le_refl _)).at (by omega)
        obtain ⟨b2, o2, rfl, -, hc2⟩ := (HB.out.below HBW.out (Nat.le_refl _)).at (by omega)
        have cx := hc1 q (by omega)
        have cy := hc2 q (by omega)
        have hq : q < n := hk
        have hqI : (q : Int) < (n : Int) := by omega
        have p1 : (0 ≤ (q : Int) ∧ (q : Int) < (n : Int)) = True := eq_true ⟨Int.natCast_nonneg _, hqI⟩
        have HLT : Hid (la.getD q 0 < lb.getD q 0 → val la < val lb) := fun h => lt_word HWA.out (by rw [HLA.out]; exact hq) (by rw [HLB.out]; exact hq) HD.out h
        have HGT : Hid (lb.getD q 0 < la.getD q 0 → val lb < val la) := fun h => lt_word HWB.out (by rw [HLB.out]; exact hq) (by rw [HLA.out]; exact hq) HD.out.symm h
        have HEQ : Hid (la.getD q 0 = lb.getD q 0 → la.drop q = lb.drop q) := fun h => drop_word (by rw [HLA.out]; exact hq) (by rw [HLB.out]; exact hq) HD.out h
        generalize la.getD q 0 = x at *
        generalize lb.getD q 0 = y at *
        have hqw : IntKind.i64.wrap ((q : Int) - 1) = (q : Int) - 1 := by rw [IntKind.wrap_i64]; omega
        clear hc1 hc2 hz
        rcases Nat.lt_trichotomy x y with h | h | h
        · have hI : decide ((x : Int) < (y : Int)) = true := decide_eq_true (by omega)
          have HV := Lib.hid (HLT.out h)
          go_wp2_with fail
          go_quiet (fail)
          go_wp2_with fail
          go_ret
          exact ⟨HBW.out.drewN _, -1, rfl, by simp; exact HV.out⟩
        · subst h
          have hI : decide ((x : Int) < (x : Int)) = false := decide_eq_false (by omega)
          have HV := Lib.hid (HEQ.out rfl)
          go_wp2_with fail
          go_quiet (fail)
          go_wp2_with fail
          go_quiet (fail)
          go_wp2_with fail
          go_roundw
          case rel => exact ⟨_, q, by omega, rfl, rfl, HV.out, HBW.out.drewN _⟩
          case measure => simp [intOf] <;> omega
        · have hI : decide ((x : Int) < (y : Int)) = false := decide_eq_false (by omega)
          have hI2 : decide ((y : Int) < (x : Int)) = true := decide_eq_true (by omega)
          have HV := Lib.hid (HGT.out h)
          go_wp2_with fail
          go_quiet (fail)
          go_wp2_with fail
          go_quiet (fail)
          go_wp2_with fail
          go_ret
          exact ⟨(HBW.out.drewN _).drewN _, 1, rfl, by have := HV.out; constructor <;> intro h9 <;> omega⟩
  · have hne : ((n : Int) != (m : Int)) = true := by rw [bne_iff_ne]; omega
    have HS : Hid (min (max ((n : Int) - (m : Int)) (-1)) 1 < 0 ↔ val la < val lb) := by
      rcases Nat.lt_or_ge n m with h | h
      · have := lt_len ca cb (by omega)
        constructor
        · intro; exact this
        · intro; omega
      · have := lt_len cb ca (by omega)
        constructor
        · intro; omega
        · intro; omega
    have hw1 : IntKind.i64.wrap ((n : Int) - (m : Int)) = (n : Int) - (m : Int) := by rw [IntKind.wrap_i64]; omega
    have emax := fun (w : World) => max2_run ((n : Int) - (m : Int)) (-1) w
    have emin := fun (w : World) => min2_run (max ((n : Int) - (m : Int)) (-1)) 1 w
    clear ha hb hla hlb ca cb
    go_enter Try.func22, Try.ntmps22
    go_wp2_with fail
    go_ret
    exact ⟨Below.refl _ _, _, rfl, HS.out⟩
end Go.Proofs.Ytkaejoejaohpcaa
