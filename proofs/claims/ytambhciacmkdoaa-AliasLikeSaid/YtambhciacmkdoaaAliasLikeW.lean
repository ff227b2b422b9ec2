/- The walk of AliasLike. No condition. -/
import Derived.Test.YtambhciacmkdoaaRepeat
set_option linter.unusedSimpArgs false
set_option linter.unusedVariables false
namespace Go.Proofs.Ytambhciacmkdoaa.aliasLike
open Go.RowKit Go.Proofs.Ytambhciacmkdoaa
theorem tot_const (c : Nat) : ∀ n, tot (fun _ => c) n = n * c
  | 0 => by simp [tot]
  | n + 1 => by rw [tot, tot_const c n, Nat.add_mul, Nat.one_mul]
theorem fl_no {p : Nat → Bool} (h : ∀ k, p k = false) : ∀ n, fl p n = -1
  | 0 => rfl
  | n + 1 => by rw [fl, fl_no h n, if_neg (by rw [h n]; simp)]
theorem fin_like (n x : Nat) (f : Nat → Nat) (hf : ∀ k, f k = x) : fin n (n * x) f = st0 n (n * x) f := by
  unfold fin
  refine run_done (.inl ?_) n
  unfold loF
  rw [fl_no (fun k => by
    unfold lowp st0
    simp only [hf]
    rw [Nat.mul_comm]; simp)]
  omega
def fx (n x : Nat) (k : Nat) : Nat := if k < n then x else 0
theorem okw (n x : Nat) (hn1 : 1 ≤ n) (hn : n ≤ 400) (hx : x ≤ 1048576) : OkW (tabI n (fun _ => x)) := by
  refine ⟨by rw [tabI_len]; omega, by rw [tabI_len]; omega, fun i hi => ?_⟩
  rw [tabI_len] at hi
  rw [tabI_get _ _ _ hi]; omega
theorem tot_like (n x : Nat) : tot (nd (tabI n (fun _ => x))) n = n * x := by
  rw [← tot_const x n]
  exact tot_congr fun i hi => by rw [nd_tabI, if_pos hi]
/-- Of places below n alone. -/
theorem fin_like' (n x : Nat) : (fin n (n * x) (nd (tabI n (fun _ => x)))).V = (fun _ => n * x) ∧ (fin n (n * x) (nd (tabI n (fun _ => x)))).T = fun k => k := by
  have : fin n (n * x) (nd (tabI n (fun _ => x))) = st0 n (n * x) (nd (tabI n (fun _ => x))) := by
    unfold fin
    refine run_done (.inr ?_) n
    unfold hiF
    rw [fl_no (fun k => by
      unfold highp st0
      simp only [nd_tabI]
      rw [Nat.mul_comm n x]
      by_cases h : k < n
      · rw [if_pos h]; simp
      · rw [if_neg h]; simp)]
    omega
  rw [this]; exact ⟨rfl, rfl⟩
theorem make_like (v : Value) (n x : Nat) (hn1 : 1 ≤ n) (hn : n ≤ 400) (hx1 : 1 ≤ x) (hx : x ≤ 1048576) (w : World) (h : Rd w v (tabI n (fun _ => x))) :
    Calls Try.prog 9 #[v] w fun e w' => Below w.heap.size w w' ∧ ∃ g, e = .returned (.tuple #[.slice (some ⟨g, 0, none⟩) n n, .int .i64 0]) ∧ RS w' g n (fun _ => n * x) (fun k => k) := by
  have hp : n * x ≠ 0 := by
    have := Nat.mul_le_mul hn1 hx1
    omega
  have := make_ok v _ w h (okw n x hn1 hn hx) (by rw [tabI_len, tot_like]; exact hp)
  rw [tabI_len, tot_like, (fin_like' n x).1, (fin_like' n x).2] at this
  refine this.mono ?_
  rintro e w' ⟨hb, g, rfl, ho⟩
  exact ⟨hb, g, rfl, ho.rs⟩
set_option maxHeartbeats 1600000 in
theorem walk (n x : Int) (w : World) (w0 : (Lit.int .i64 n).wf = true) (w1 : (Lit.int .i64 x).wf = true) :
    Calls Try.prog 6 #[.int .i64 n, .int .i64 x] w fun e w' => e = .returned (.bool true) ∧ Below w.heap.size w w' := by
  by_cases hok : 1 ≤ n ∧ n ≤ 400 ∧ 1 ≤ x ∧ x ≤ 1048576
  · obtain ⟨hn1, hn2, hx1, hx2⟩ := hok
    obtain ⟨n, rfl⟩ : ∃ m : Nat, n = m := ⟨n.toNat, by omega⟩
    obtain ⟨x, rfl⟩ : ∃ m : Nat, x = m := ⟨x.toNat, by omega⟩
    have f1 : decide ((n : Int) < 1) = false := decide_eq_false (by omega)
    have f2 : decide ((400 : Int) < (n : Int)) = false := decide_eq_false (by omega)
    have f3 : decide ((x : Int) < 1) = false := decide_eq_false (by omega)
    have f4 : decide ((1048576 : Int) < (x : Int)) = false := decide_eq_false (by omega)
    go_enter Try.func6, Try.ntmps6
    go_wp2_with fail
    refine (alive_any _).mono ?_
    rintro e w1 ⟨rfl, hb1⟩
    have HB1 := Lib.hid hb1
    clear hb1
    go_wp2_with fail
    refine (repeat_one n x w1.heap.size 1 (by omega) (by omega) _ ?_).mono ?_
    · rw [cell_of_row _ _ _ _ _ _ (heap_alloc_new w1 _)]
      rfl
    rintro e w2 ⟨hb2, g, rfl, ho⟩
    have HB2 := Lib.hid (HB1.out.trans (((Below.refl w1.heap.size w1).alloc (Nat.le_refl _) _ |>.trans (hb2.mono (by simp))).mono HB1.out.size))
    have HR := Lib.hid ho.rd
    clear hb2 ho
    go_wp2_with fail
    refine (make_like _ n x (by omega) (by omega) (by omega) (by omega) _ HR.out).mono ?_
    rintro e w3 ⟨hb3, g3, rfl, hrs⟩
    have HB3 := Lib.hid (HB2.out.trans (hb3.mono HB2.out.size))
    have HRS := Lib.hid hrs
    have hpr : (n : Int) * (x : Int) = ((n * x : Nat) : Int) := rfl
    have hpb : n * x ≤ 400 * 1048576 := Nat.mul_le_mul (by omega) (by omega)
    obtain ⟨z, hz⟩ : ∃ z, n * x = z := ⟨_, rfl⟩
    rw [hz] at hpr HRS hpb
    have hw : IntKind.i64.wrap (z : Int) = (z : Int) := by rw [IntKind.wrap_i64]; omega
    clear hb3 hrs HR HB1 HB2 hz
    go_wp2_with fail
    go_loopw [35, 7, 8] (fun kv _ _ wr => ∃ k : Nat, k ≤ n ∧ kv = .int .i64 k ∧ Below w3.heap.size w3 wr) (fun kv _ _ _ => n - (intOf kv).toNat)
    case atStart => exact ⟨0, Nat.zero_le _, rfl, Below.refl _ _⟩
    case round =>
      obtain ⟨k, hk, rfl, hbel⟩ := hrel
      by_cases hlt : k < n
      · have hrs := HRS.out.below hbel (Nat.le_refl _)
        obtain ⟨c1, c2⟩ := hrs.2 k hlt
        have HB9 : Hid (Below w3.heap.size w3 (wr.alloc (.cells #[.int .i64 (z : Nat), .int .i64 (k : Nat)] 33))) := hbel.alloc hbel.size _
        clear hrs hbel
        go_wp2_with fail
        exact ⟨⟨k + 1, by omega, by go_num, HB9.out⟩, by simp [intOf]; omega⟩
      · obtain rfl : k = n := by omega
        have HBE := Lib.hid (HB3.out.trans (hbel.mono HB3.out.size))
        clear hbel
        go_wp2_with fail
        go_ret
        exact ⟨by simp, HBE.out⟩
  · by_cases k1 : n < 1
    · have f1 : decide (n < 1) = true := decide_eq_true k1
      go_enter Try.func6, Try.ntmps6
      go_wp2_with fail
      refine (alive_any _).mono ?_
      rintro e w1 ⟨rfl, hb1⟩
      have HB1 := Lib.hid hb1
      clear hb1
      go_wp2_with fail
      go_ret
      exact ⟨rfl, HB1.out⟩
    · have f1 : decide (n < 1) = false := decide_eq_false k1
      by_cases k2 : 400 < n
      · have f2 : decide (400 < n) = true := decide_eq_true k2
        go_enter Try.func6, Try.ntmps6
        go_wp2_with fail
        refine (alive_any _).mono ?_
        rintro e w1 ⟨rfl, hb1⟩
        have HB1 := Lib.hid hb1
        clear hb1
        go_wp2_with fail
        go_ret
        exact ⟨rfl, HB1.out⟩
      · have f2 : decide (400 < n) = false := decide_eq_false k2
        by_cases k3 : x < 1
        · have f3 : decide (x < 1) = true := decide_eq_true k3
          go_enter Try.func6, Try.ntmps6
          go_wp2_with fail
          refine (alive_any _).mono ?_
          rintro e w1 ⟨rfl, hb1⟩
          have HB1 := Lib.hid hb1
          clear hb1
          go_wp2_with fail
          go_ret
          exact ⟨rfl, HB1.out⟩
        · have f3 : decide (x < 1) = false := decide_eq_false k3
          have f4 : decide (1048576 < x) = true := decide_eq_true (by omega)
          go_enter Try.func6, Try.ntmps6
          go_wp2_with fail
          refine (alive_any _).mono ?_
          rintro e w1 ⟨rfl, hb1⟩
          have HB1 := Lib.hid hb1
          clear hb1
          go_wp2_with fail
          go_ret
          exact ⟨rfl, HB1.out⟩
end Go.Proofs.Ytambhciacmkdoaa.aliasLike
