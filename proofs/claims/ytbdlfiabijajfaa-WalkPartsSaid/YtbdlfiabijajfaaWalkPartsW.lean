/- The walk of WalkParts. No condition. -/
import Derived.Test.YtbdlfiabijajfaaAl
import Derived.Test.YtbdlfiabijajfaaPartsLaw2
set_option linter.unusedSimpArgs false
set_option linter.unusedVariables false
namespace Go.Proofs.Ytbdlfiabijajfaa.walkParts
open Go.RowKit Go.Proofs.Ytbdlfiabijajfaa
theorem bt_S (n : Nat) (f t T : Int) (h1 : 1 ≤ f) (h2 : f < T) (h3 : 1 ≤ t) (h4 : t < T) : bt n f t T = S n f t T := by
  unfold bt; rw [if_neg (by omega)]; rfl
theorem bt_out (n : Nat) (f t T : Int) (h : T ≤ f ∨ T ≤ t) : bt n f t T = 0 := by
  unfold bt; rw [if_pos (by omega)]
def jb (a b : Nat) (f t T : Int) : Nat → Int
  | 0 => 0
  | m + 1 => jb a b f t T m + bt a f ((m : Int) + 1) T * bt b ((m : Int) + 1) t T
theorem bt_nonneg (n : Nat) (hn : n ≤ 56) (f t T : Int) (h1 : 1 ≤ f) (h3 : 1 ≤ t) : 0 ≤ bt n f t T := by
  by_cases h : T ≤ f ∨ T ≤ t
  · rw [bt_out n f t T h]; omega
  · rw [bt_S n f t T h1 (by omega) h3 (by omega)]
    exact S_nonneg n hn f T (by omega) (by omega) t (by omega) (by omega)
theorem jb_mono (a b : Nat) (ha : a ≤ 56) (hb : b ≤ 56) (f t T : Int) (h1 : 1 ≤ f) (h3 : 1 ≤ t) (m : Nat) : jb a b f t T m ≤ jb a b f t T (m + 1) := by
  have := Int.mul_nonneg (bt_nonneg a ha f ((m : Int) + 1) T h1 (by omega)) (bt_nonneg b hb ((m : Int) + 1) t T (by omega) h3)
  simp only [jb]; omega
theorem jb_nonneg (a b : Nat) (ha : a ≤ 56) (hb : b ≤ 56) (f t T : Int) (h1 : 1 ≤ f) (h3 : 1 ≤ t) (m : Nat) : 0 ≤ jb a b f t T m := by
  induction m with
  | zero => simp [jb]
  | succ m ih => have := jb_mono a b ha hb f t T h1 h3 m; omega
theorem jb_le (a b : Nat) (ha : a ≤ 56) (hb : b ≤ 56) (f t T : Int) (h1 : 1 ≤ f) (h3 : 1 ≤ t) (m d : Nat) : jb a b f t T m ≤ jb a b f t T (m + d) := by
  induction d with
  | zero => exact Int.le_refl _
  | succ d ih => exact Int.le_trans ih (jb_mono a b ha hb f t T h1 h3 (m + d))
theorem jb_all (a b : Nat) (hab : a + b ≤ 56) (f t T : Int) (h1 : 1 ≤ f) (h3 : 1 ≤ t) (m : Nat) (hm : (m : Int) + 1 = T) : jb a b f t T m = bt (a + b) f t T := by
  by_cases h : T ≤ f ∨ T ≤ t
  · rw [bt_out _ f t T h]
    have : ∀ k : Nat, jb a b f t T k = 0 := by
      intro k
      induction k with
      | zero => rfl
      | succ k ih =>
        rw [jb, ih]
        rcases h with h | h
        · rw [bt_out a f _ T (.inl h)]; simp
        · rw [bt_out b _ t T (.inr h)]; simp
    exact this m
  · rw [bt_S _ f t T h1 (by omega) h3 (by omega), ← join a f T (by omega) (by omega) m hm b hab t (by omega) (by omega)]
    have : ∀ k : Nat, (k : Int) < T → jb a b f t T k = jn a b f t T k := by
      intro k
      induction k with
      | zero => intro _; rfl
      | succ k ih =>
        intro hk
        rw [jb, jn, ih (by omega), bt_S a f _ T h1 (by omega) (by omega) (by omega), bt_S b _ t T (by omega) (by omega) h3 (by omega)]
    exact this m (by omega)
theorem bt_bd (n : Nat) (hn : n ≤ 56) (f t T : Int) : bt n f t T ≤ 1000000000000000000 := by
  unfold bt
  split
  · omega
  · have := bs_bd n hn f t T 113; omega
theorem bt_ab (n : Nat) (hn : n ≤ 56) (f t T : Int) (h1 : 1 ≤ f) (h3 : 1 ≤ t) : bt n f t T ≤ ab n f t := by
  by_cases h : T ≤ f ∨ T ≤ t
  · rw [bt_out n f t T h]; exact ab_nonneg n hn f (by omega) t (by omega)
  · rw [bt_S n f t T h1 (by omega) h3 (by omega)]
    exact S_le_ab n hn f T (by omega) (by omega) t (by omega) (by omega)
set_option maxHeartbeats 800000 in
theorem walk_in (a b : Nat) (hab : a + b ≤ 56) (f t : Int) (T : Nat) (hT1 : 1 ≤ T) (hT2 : T ≤ 20) (h1 : 1 ≤ f) (h2 : f ≤ 100) (h3 : 1 ≤ t) (h4 : t ≤ 100) (w : World) :
    Calls Try.prog 7 #[.int .i64 a, .int .i64 b, .int .i64 f, .int .i64 t, .int .i64 T] w fun e w' => e = .returned (.bool true) ∧ Below w.heap.size w w' := by
  have HX : Hid (∀ m : Nat, m + 1 < T → ∀ w, Calls Try.prog 13 #[.int .i64 a, .int .i64 f, .int .i64 ((m : Int) + 1), .int .i64 T] w fun e w' => e = .returned (.tuple #[.int .i64 (bt a f ((m : Int) + 1) T), .int .i64 0]) ∧ Below w.heap.size w w') :=
    fun m hm w => Between_any a (by omega) f ((m : Int) + 1) T h1 h2 (by omega) (by omega) (by omega) (by omega) w
  have HY : Hid (∀ m : Nat, m + 1 < T → ∀ w, Calls Try.prog 13 #[.int .i64 b, .int .i64 ((m : Int) + 1), .int .i64 t, .int .i64 T] w fun e w' => e = .returned (.tuple #[.int .i64 (bt b ((m : Int) + 1) t T), .int .i64 0]) ∧ Below w.heap.size w w') :=
    fun m hm w => Between_any b (by omega) ((m : Int) + 1) t T (by omega) (by omega) h3 h4 (by omega) (by omega) w
  have HA : Hid (∀ w, Calls Try.prog 13 #[.int .i64 ((a : Int) + (b : Int)), .int .i64 f, .int .i64 t, .int .i64 T] w fun e w' => e = .returned (.tuple #[.int .i64 (bt (a + b) f t T), .int .i64 0]) ∧ Below w.heap.size w w') := fun w => by
    have := Between_any (a + b) hab f t T h1 h2 h3 h4 (by omega) (by omega) w
    rwa [Int.natCast_add] at this
  have HV : Hid (∀ w, Calls Try.prog 10 #[.int .i64 ((a : Int) + (b : Int)), .int .i64 f, .int .i64 t] w fun e w' => e = .returned (.tuple #[.int .i64 (ab (a + b) f t), .int .i64 0]) ∧ Below w.heap.size w w') := fun w => by
    have := Above_any (a + b) hab f t h1 h2 h3 h4 w
    rwa [Int.natCast_add] at this
  have HJ := Lib.hid (jb_all a b hab f t T h1 h3 (T - 1) (by omega))
  have HN := Lib.hid (fun m => jb_nonneg a b (by omega) (by omega) f t T h1 h3 m)
  have HL : Hid (∀ m : Nat, m + 1 ≤ T → jb a b f t T m ≤ 1000000000000000000) := fun m hm => by
    have := jb_le a b (by omega) (by omega) f t T h1 h3 m (T - 1 - m)
    rw [show m + (T - 1 - m) = T - 1 by omega, HJ.out] at this
    have := bt_bd (a + b) hab f t T
    omega
  have HP : Hid (∀ m : Nat, 0 ≤ bt a f ((m : Int) + 1) T * bt b ((m : Int) + 1) t T) := fun m => Int.mul_nonneg (bt_nonneg a (by omega) f _ T h1 (by omega)) (bt_nonneg b (by omega) _ t T (by omega) h3)
  have hle := bt_ab (a + b) hab f t T h1 h3
  have n1 : ¬ (56 : Int) < (a : Int) := by omega
  have n2 : ¬ (56 : Int) < (b : Int) := by omega
  have n3 : ¬ (56 : Int) < (a : Int) + (b : Int) := by omega
  go_enter Try.func7, Try.ntmps7
  go_wp2_with fail
  refine (alive_any _).mono ?_
  rintro e w1 ⟨rfl, hb1⟩
  go_wp2_with fail
  go_loopw [11, 12] (fun s i wr => ∃ m : Nat, m + 1 ≤ T ∧ i = .int .i64 ((m : Int) + 1) ∧ s = .int .i64 (jb a b f t T m) ∧ Below w.heap.size w wr) (fun _ i _ => T + 1 - (intOf i).toNat)
  case atStart => exact ⟨0, by omega, rfl, rfl, hb1⟩
  case round =>
    obtain ⟨m, hm, rfl, rfl, hbel⟩ := hrel
    have j0 := HN.out m
    have j1 := HL.out m hm
    by_cases hlt : m + 1 < T
    · have p0 := HP.out m
      have HS : Hid (jb a b f t T (m + 1) = jb a b f t T m + bt a f ((m : Int) + 1) T * bt b ((m : Int) + 1) t T) := rfl
      have p1 : bt a f ((m : Int) + 1) T * bt b ((m : Int) + 1) t T ≤ 1000000000000000000 := by
        have := HL.out (m + 1) (by omega); have := HS.out; omega
      have H1 := Lib.hid (HX.out m hlt)
      have H2 := Lib.hid (HY.out m hlt)
      have hlt' : (m : Int) + 1 < (T : Int) := by omega
      generalize jb a b f t T m = s at *
      generalize bt a f ((m : Int) + 1) T = x at *
      generalize bt b ((m : Int) + 1) t T = y at *
      go_wp2_with fail
      refine (H1.out _).mono ?_
      rintro e w2 ⟨rfl, hb2⟩
      go_wp2_with fail
      refine (H2.out _).mono ?_
      rintro e w3 ⟨rfl, hb3⟩
      go_wp2_with fail
      have s0 := hbel.size
      have s2 := hb2.size
      go_roundw
      case rel => exact ⟨m + 1, by omega, by go_num, by rw [HS.out], (hbel.trans (hb2.mono s0)).trans (hb3.mono (by omega))⟩
      case measure => simp [intOf]; omega
    · have hTm : T - 1 = m := by omega
      have hge : ¬ ((m : Int) + 1 < (T : Int)) := by omega
      have hJ := HJ.out
      rw [hTm] at hJ
      rw [hJ]
      clear hJ HJ
      generalize bt (a + b) f t T = z at *
      generalize ab (a + b) f t = u at *
      have k1 : (z == z) = true := by simp
      go_wp2_with fail
      refine (HA.out _).mono ?_
      rintro e w2 ⟨rfl, hb2⟩
      go_wp2_with fail
      refine (HV.out _).mono ?_
      rintro e w3 ⟨rfl, hb3⟩
      go_wp2_with fail
      go_ret
      have s0 := hbel.size
      have s2 := hb2.size
      exact ⟨by simp, (hbel.trans (hb2.mono s0)).trans (hb3.mono (by omega))⟩
set_option maxHeartbeats 4000000 in
theorem walk_out (a b f t T : Int) (hx : a < 0 ∨ b < 0 ∨ 56 < a ∨ 56 < b ∨ 56 < a + b ∨ T < 1 ∨ 20 < T ∨ f < 1 ∨ t < 1 ∨ 100 < f ∨ 100 < t) (w : World) : Calls Try.prog 7 #[.int .i64 a, .int .i64 b, .int .i64 f, .int .i64 t, .int .i64 T] w fun e w' => e = .returned (.bool true) ∧ Below w.heap.size w w' := by
  have HX := Lib.hid hx; clear hx
  by_cases q0 : a < 0
  · clear HX
    go_enter Try.func7, Try.ntmps7
    go_wp2_with fail
    refine (alive_any _).mono ?_
    rintro e w1 ⟨rfl, hb1⟩
    go_wp2_with fail
    go_ret
    exact ⟨rfl, hb1⟩
  · skip
    by_cases q1 : b < 0
    · clear HX
      go_enter Try.func7, Try.ntmps7
      go_wp2_with fail
      refine (alive_any _).mono ?_
      rintro e w1 ⟨rfl, hb1⟩
      go_wp2_with fail
      go_ret
      exact ⟨rfl, hb1⟩
    · skip
      by_cases q2 : 56 < a
      · clear HX
        go_enter Try.func7, Try.ntmps7
        go_wp2_with fail
        refine (alive_any _).mono ?_
        rintro e w1 ⟨rfl, hb1⟩
        go_wp2_with fail
        go_ret
        exact ⟨rfl, hb1⟩
      · skip
        by_cases q3 : 56 < b
        · clear HX
          go_enter Try.func7, Try.ntmps7
          go_wp2_with fail
          refine (alive_any _).mono ?_
          rintro e w1 ⟨rfl, hb1⟩
          go_wp2_with fail
          go_ret
          exact ⟨rfl, hb1⟩
        · skip
          by_cases q4 : 56 < a + b
          · clear HX
            go_enter Try.func7, Try.ntmps7
            go_wp2_with fail
            refine (alive_any _).mono ?_
            rintro e w1 ⟨rfl, hb1⟩
            go_wp2_with fail
            go_ret
            exact ⟨rfl, hb1⟩
          · skip
            by_cases q5 : T < 1
            · clear HX
              go_enter Try.func7, Try.ntmps7
              go_wp2_with fail
              refine (alive_any _).mono ?_
              rintro e w1 ⟨rfl, hb1⟩
              go_wp2_with fail
              go_ret
              exact ⟨rfl, hb1⟩
            · skip
              by_cases q6 : 20 < T
              · clear HX
                go_enter Try.func7, Try.ntmps7
                go_wp2_with fail
                refine (alive_any _).mono ?_
                rintro e w1 ⟨rfl, hb1⟩
                go_wp2_with fail
                go_ret
                exact ⟨rfl, hb1⟩
              · skip
                by_cases q7 : f < 1
                · clear HX
                  go_enter Try.func7, Try.ntmps7
                  go_wp2_with fail
                  refine (alive_any _).mono ?_
                  rintro e w1 ⟨rfl, hb1⟩
                  go_wp2_with fail
                  go_ret
                  exact ⟨rfl, hb1⟩
                · skip
                  by_cases q8 : t < 1
                  · clear HX
                    go_enter Try.func7, Try.ntmps7
                    go_wp2_with fail
                    refine (alive_any _).mono ?_
                    rintro e w1 ⟨rfl, hb1⟩
                    go_wp2_with fail
                    go_ret
                    exact ⟨rfl, hb1⟩
                  · skip
                    by_cases q9 : 100 < f
                    · clear HX
                      go_enter Try.func7, Try.ntmps7
                      go_wp2_with fail
                      refine (alive_any _).mono ?_
                      rintro e w1 ⟨rfl, hb1⟩
                      go_wp2_with fail
                      go_ret
                      exact ⟨rfl, hb1⟩
                    · skip
                      have q10 : 100 < t := by have := HX.out; omega
                      clear HX
                      go_enter Try.func7, Try.ntmps7
                      go_wp2_with fail
                      refine (alive_any _).mono ?_
                      rintro e w1 ⟨rfl, hb1⟩
                      go_wp2_with fail
                      go_ret
                      exact ⟨rfl, hb1⟩
theorem walk (a0 a1 a2 a3 a4 : Int) (w : World) (w0 : (Lit.int .i64 a0).wf = true) (w1 : (Lit.int .i64 a1).wf = true) (w2 : (Lit.int .i64 a2).wf = true) (w3 : (Lit.int .i64 a3).wf = true) (w4 : (Lit.int .i64 a4).wf = true) :
    Calls Try.prog 7 #[.int .i64 a0, .int .i64 a1, .int .i64 a2, .int .i64 a3, .int .i64 a4] w fun e w' => e = .returned (.bool true) ∧ Below w.heap.size w w' := by
  by_cases hx : a0 < 0 ∨ a1 < 0 ∨ 56 < a0 ∨ 56 < a1 ∨ 56 < a0 + a1 ∨ a4 < 1 ∨ 20 < a4 ∨ a2 < 1 ∨ a3 < 1 ∨ 100 < a2 ∨ 100 < a3
  · exact walk_out a0 a1 a2 a3 a4 hx w
  · obtain ⟨a, rfl⟩ : ∃ n : Nat, a0 = n := ⟨a0.toNat, by omega⟩
    obtain ⟨b, rfl⟩ : ∃ n : Nat, a1 = n := ⟨a1.toNat, by omega⟩
    obtain ⟨T, rfl⟩ : ∃ n : Nat, a4 = n := ⟨a4.toNat, by omega⟩
    exact walk_in a b (by omega) a2 a3 T (by omega) (by omega) (by omega) (by omega) (by omega) (by omega) w
end Go.Proofs.Ytbdlfiabijajfaa.walkParts
