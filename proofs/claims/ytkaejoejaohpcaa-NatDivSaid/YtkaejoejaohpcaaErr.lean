/- nat.Add, nat.Mul of what is no number. No condition. -/
import Derived.Test.YtkaejoejaohpcaaMul
set_option linter.unusedSimpArgs false
set_option linter.unusedVariables false
namespace Go.Proofs.Ytkaejoejaohpcaa
open Go.RowKit
set_option maxHeartbeats 800000 in
theorem add_err (a : Option Addr) (n c : Nat) (la : List Nat) (a2 : Option Addr) (m c2 : Nat) (lb : List Nat) (w : World) (ha : Rd w (.slice a n c) (castN la)) (hb : Rd w (.slice a2 m c2) (castN lb)) (h : rightB la = false ∨ rightB lb = false) :
    Calls Try.prog 9 #[.slice a n c, .slice a2 m c2] w fun e w' => e = .returned (.tuple #[.slice none 0 0, .int .i64 1]) ∧ w = w' := by
  have H1 := Lib.hid (right_any a n c la w ha)
  have H2 := Lib.hid (right_any a2 m c2 lb w hb)
  clear ha hb
  go_enter Try.func9, Try.ntmps9
  go_wp2_with fail
  refine H1.out.mono ?_
  rintro e w1 ⟨rfl, rfl⟩
  cases hx : rightB la with
  | false =>
    clear H1 H2
    go_wp2_with fail
    go_ret2
    exact ⟨rfl, rfl⟩
  | true =>
    have hy : rightB lb = false := by rcases h with h | h; rw [hx] at h; cases h; exact h
    rw [hy] at H2
    clear H1 h
    go_wp2_with fail
    refine H2.out.mono ?_
    rintro e w1 ⟨rfl, rfl⟩
    go_wp2_with fail
    go_ret2
    exact ⟨rfl, rfl⟩
set_option maxHeartbeats 800000 in
theorem mul_err (a : Option Addr) (n c : Nat) (la : List Nat) (a2 : Option Addr) (m c2 : Nat) (lb : List Nat) (w : World) (ha : Rd w (.slice a n c) (castN la)) (hb : Rd w (.slice a2 m c2) (castN lb)) (h : rightB la = false ∨ rightB lb = false) :
    Calls Try.prog 8 #[.slice a n c, .slice a2 m c2] w fun e w' => e = .returned (.tuple #[.slice none 0 0, .int .i64 1]) ∧ w = w' := by
  have H1 := Lib.hid (right_any a n c la w ha)
  have H2 := Lib.hid (right_any a2 m c2 lb w hb)
  clear ha hb
  go_enter Try.func8, Try.ntmps8
  go_wp2_with fail
  refine H1.out.mono ?_
  rintro e w1 ⟨rfl, rfl⟩
  cases hx : rightB la with
  | false =>
    clear H1 H2
    go_wp2_with fail
    go_ret2
    exact ⟨rfl, rfl⟩
  | true =>
    have hy : rightB lb = false := by rcases h with h | h; rw [hx] at h; cases h; exact h
    rw [hy] at H2
    clear H1 h
    go_wp2_with fail
    refine H2.out.mono ?_
    rintro e w1 ⟨rfl, rfl⟩
    go_wp2_with fail
    go_ret2
    exact ⟨rfl, rfl⟩
/-- Sum and product, whatever is given: a result. -/
theorem add_some (a : Option Addr) (n c : Nat) (la : List Nat) (a2 : Option Addr) (m c2 : Nat) (lb : List Nat) (w : World) (ha : Rd w (.slice a n c) (castN la)) (hb : Rd w (.slice a2 m c2) (castN lb)) (wa : Wd la) (wb : Wd lb) :
    Calls Try.prog 9 #[.slice a n c, .slice a2 m c2] w fun e w' => Below w.heap.size w w' ∧ ∃ v, ∃ er : Nat, e = .returned (.tuple #[v, .int .i64 er]) := by
  by_cases h : rightB la = true ∧ rightB lb = true
  · obtain ⟨h1, h2⟩ := (rightB_iff wa).1 h.1
    obtain ⟨h3, h4⟩ := (rightB_iff wb).1 h.2
    have := ha.lenEq.1
    have := hb.lenEq.1
    refine (add_run a n c la a2 m c2 lb w ha hb h2 h4 (by omega) (by omega)).mono ?_
    rintro e w' ⟨h5, l, -, -, ⟨-, v, h6, -⟩ | ⟨-, h6⟩⟩
    · exact ⟨h5, v, 0, h6⟩
    · exact ⟨h5, _, 4, h6⟩
  · refine (add_err a n c la a2 m c2 lb w ha hb ?_).mono ?_
    · cases h1 : rightB la
      · exact .inl rfl
      · cases h2 : rightB lb
        · exact .inr rfl
        · exact absurd ⟨h1, h2⟩ h
    · rintro e w' ⟨h1, rfl⟩
      exact ⟨Below.refl _ _, _, 1, h1⟩
/-- Numbers few enough: the sum, the product. -/
theorem add_ok (a : Option Addr) (n c : Nat) (la : List Nat) (a2 : Option Addr) (m c2 : Nat) (lb : List Nat) (w : World) (V : Nat) (ha : Rd w (.slice a n c) (castN la)) (hb : Rd w (.slice a2 m c2) (castN lb)) (wa : Canon la) (wb : Canon lb) (hn : n ≤ 63) (hm : m ≤ 63) (hV : val la + val lb = V) :
    Calls Try.prog 9 #[.slice a n c, .slice a2 m c2] w fun e w' => Below w.heap.size w w' ∧ ∃ b k d l, e = .returned (.tuple #[.slice b k d, .int .i64 0]) ∧ Rd w' (.slice b k d) (castN l) ∧ Canon l ∧ val l = V ∧ k ≤ max n m + 1 := by
  have e1 := ha.lenEq.1
  have e2 := hb.lenEq.1
  refine (add_run a n c la a2 m c2 lb w ha hb wa wb (by omega) (by omega)).mono ?_
  rintro e w' ⟨h5, l, h6, h7, h8⟩
  rw [hV] at h7
  have hl : l.length ≤ max n m + 1 := by
    rw [len_iff h6, h7, ← hV, Nat.pow_succ]
    have v1 := (len_iff wa (max n m)).1 (by omega)
    have v2 := (len_iff wb (max n m)).1 (by omega)
    generalize 18446744073709551616 ^ max n m = p at *
    omega
  rcases h8 with ⟨-, v, rfl, hr⟩ | ⟨h9, -⟩
  · obtain ⟨b, d, rfl, -, -⟩ := hr.slice
    exact ⟨h5, b, _, d, l, rfl, hr, h6, h7, hl⟩
  · omega
theorem mul_ok (a : Option Addr) (n c : Nat) (la : List Nat) (a2 : Option Addr) (m c2 : Nat) (lb : List Nat) (w : World) (V : Nat) (ha : Rd w (.slice a n c) (castN la)) (hb : Rd w (.slice a2 m c2) (castN lb)) (wa : Canon la) (wb : Canon lb) (hnm : n + m ≤ 64) (hV : val la * val lb = V) :
    Calls Try.prog 8 #[.slice a n c, .slice a2 m c2] w fun e w' => Below w.heap.size w w' ∧ ∃ b k d l, e = .returned (.tuple #[.slice b k d, .int .i64 0]) ∧ Rd w' (.slice b k d) (castN l) ∧ Canon l ∧ val l = V ∧ k ≤ n + m := by
  have e1 := ha.lenEq.1
  have e2 := hb.lenEq.1
  refine (mul_run a n c la a2 m c2 lb w ha hb wa wb (by omega) (by omega)).mono ?_
  rintro e w' ⟨h5, l, h6, h7, h8⟩
  rw [hV] at h7
  have hl : l.length ≤ n + m := by
    rw [len_iff h6, h7, ← hV, Nat.pow_add]
    exact Nat.mul_lt_mul'' ((len_iff wa n).1 (by omega)) ((len_iff wb m).1 (by omega))
  rcases h8 with ⟨-, v, rfl, hr⟩ | ⟨h9, -⟩
  · obtain ⟨b, d, rfl, -, -⟩ := hr.slice
    exact ⟨h5, b, _, d, l, rfl, hr, h6, h7, hl⟩
  · omega
end Go.Proofs.Ytkaejoejaohpcaa
