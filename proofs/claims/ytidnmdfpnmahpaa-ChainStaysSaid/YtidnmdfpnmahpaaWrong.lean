/- chain.Wrong, chain.sum, total: what they answer. No condition. -/
import Derived.Test.YtidnmdfpnmahpaaMat
import Derived.Deep.LoopGhost
set_option linter.unusedSimpArgs false
set_option linter.unusedVariables false
set_option maxRecDepth 20000
namespace Go.Proofs.Ytidnmdfpnmahpaa
open Go.RowKit
def sumL : List Int → Int
  | [] => 0
  | x :: r => x + sumL r
/-- What is wrong with a row, the sum so far s. -/
def errS : List Int → Int → Nat
  | [], s => if s = 0 then 3 else 0
  | x :: r, s => if 0 ≤ x ∧ x ≤ 9 then errS r (s + x) else 2
def rowErr (n : Nat) (r : List Int) : Nat := if r.length = n then errS r 0 else 1
def wrongR (n : Nat) : List (List Int) → Nat
  | [] => 0
  | r :: rs => if rowErr n r = 0 then wrongR n rs else rowErr n r
def wrongN (M : List (List Int)) : Nat := if M.length < 1 ∨ 5 < M.length then 2 else wrongR M.length M
theorem drop_at {α : Type} (l : List α) (i : Nat) (d : α) (h : i < l.length) : l.drop i = l.getD i d :: l.drop (i + 1) := by
  rw [List.drop_eq_getElem_cons h, List.getD_eq_getElem?_getD, List.getElem?_eq_getElem h]; rfl
theorem errS_le : ∀ r s, errS r s ≤ 3
  | [], s => by unfold errS; split <;> omega
  | x :: r, s => by unfold errS; split; exact errS_le r _; omega
theorem rowErr_le (n : Nat) (r : List Int) : rowErr n r ≤ 3 := by unfold rowErr; split; exact errS_le r _; omega
theorem errS_zero : ∀ r s, 0 ≤ s → (errS r s = 0 ↔ (∀ x ∈ r, 0 ≤ x ∧ x ≤ 9) ∧ 0 < s + sumL r)
  | [], s, hs => by
    unfold errS sumL
    constructor
    · intro h; split at h
      · cases h
      · exact ⟨(fun x hx => by cases hx), by omega⟩
    · intro h; rw [if_neg (by omega)]
  | x :: r, s, hs => by
    unfold errS sumL
    by_cases h : 0 ≤ x ∧ x ≤ 9
    · rw [if_pos h, errS_zero r (s + x) (by omega)]
      constructor
      · rintro ⟨h1, h2⟩
        exact ⟨fun y hy => by rcases List.mem_cons.1 hy with rfl | hy; exact h; exact h1 y hy, by omega⟩
      · rintro ⟨h1, h2⟩
        exact ⟨fun y hy => h1 y (List.mem_cons_of_mem _ hy), by omega⟩
    · rw [if_neg h]
      constructor
      · intro h; cases h
      · rintro ⟨h1, -⟩; exact absurd (h1 x List.mem_cons_self) h
/-- Weights that nothing is wrong with. -/
def Good (n : Nat) (M : List (List Int)) : Prop := M.length = n ∧ 1 ≤ n ∧ n ≤ 5 ∧ ∀ r ∈ M, r.length = n ∧ (∀ x ∈ r, 0 ≤ x ∧ x ≤ 9) ∧ 0 < sumL r
theorem wrongR_zero (n : Nat) : ∀ M, wrongR n M = 0 ↔ ∀ r ∈ M, r.length = n ∧ (∀ x ∈ r, 0 ≤ x ∧ x ≤ 9) ∧ 0 < sumL r
  | [] => ⟨(fun _ r h => by cases h), fun _ => rfl⟩
  | r :: M => by
    unfold wrongR
    have hr : rowErr n r = 0 ↔ r.length = n ∧ (∀ x ∈ r, 0 ≤ x ∧ x ≤ 9) ∧ 0 < sumL r := by
      unfold rowErr
      by_cases h : r.length = n
      · rw [if_pos h, errS_zero r 0 (Int.le_refl _), Int.zero_add]; exact ⟨fun h' => ⟨h, h'⟩, fun h' => h'.2⟩
      · rw [if_neg h]; exact ⟨(fun h' => by cases h'), fun h' => absurd h'.1 h⟩
    by_cases h : rowErr n r = 0
    · rw [if_pos h, wrongR_zero n M]
      exact ⟨fun h2 q hq => by rcases List.mem_cons.1 hq with rfl | hq; exact hr.1 h; exact h2 q hq, fun h2 q hq => h2 q (List.mem_cons_of_mem _ hq)⟩
    · rw [if_neg h]
      exact ⟨fun h2 => absurd h2 h, fun h2 => absurd (hr.2 (h2 r List.mem_cons_self)) h⟩
theorem wrong_good (M : List (List Int)) : wrongN M = 0 ↔ Good M.length M := by
  unfold wrongN Good
  by_cases h : M.length < 1 ∨ 5 < M.length
  · rw [if_pos h]; exact ⟨(fun h => by cases h), fun h2 => by omega⟩
  · rw [if_neg h, wrongR_zero]
    exact ⟨fun h2 => ⟨rfl, by omega, by omega, h2⟩, fun h2 => h2.2.2.2⟩
theorem wrongR_le (n : Nat) : ∀ M, wrongR n M ≤ 3
  | [] => Nat.zero_le _
  | r :: M => by unfold wrongR; split; exact wrongR_le n M; exact rowErr_le n r
theorem wrongN_le (M : List (List Int)) : wrongN M ≤ 3 := by unfold wrongN; split; omega; exact wrongR_le _ _
theorem Rd.slice {w : World} {v : Value} {zs : List Int} (h : Rd w v zs) : ∃ a cap, v = .slice a zs.length cap ∧ zs.length ≤ cap ∧ cap ≤ maxLen := by
  obtain ⟨a, cap, rfl, h1, h2, _⟩ := h; exact ⟨a, cap, rfl, h1, h2⟩
theorem Rd.lenEq {w : World} {a : Option Addr} {n cap : Nat} {zs : List Int} (h : Rd w (.slice a n cap) zs) : zs.length = n ∧ n ≤ cap ∧ cap ≤ 9223372036854775807 := by
  obtain ⟨a', c', he, h1, h2, -⟩ := h.open
  injection he with _ h3 h4
  subst h3; subst h4
  exact ⟨rfl, h1, h2⟩
theorem Rd.at {w : World} {a : Option Addr} {n cap : Nat} {zs : List Int} (h : Rd w (.slice a n cap) zs) (hn : 0 < n) :
    ∃ b off, a = some ⟨b, off, none⟩ ∧ b < w.heap.size ∧ ∀ i, i < n → w.cell? ⟨b, off + i, none⟩ = some (.int .i64 (zs.getD i 0)) := by
  obtain ⟨a', c', he, -, -, hop⟩ := h.open
  injection he with h2 h3 h4
  subst h2; subst h3
  exact hop 0 hn
theorem RdM.lenEq {w : World} {a : Option Addr} {n cap : Nat} {zs : List (List Int)} (h : RdM w (.slice a n cap) zs) : zs.length = n ∧ n ≤ cap ∧ cap ≤ 9223372036854775807 := by
  obtain ⟨a', c', he, h1, h2, -⟩ := h.open
  injection he with _ h3 h4
  subst h3; subst h4
  exact ⟨rfl, h1, h2⟩
theorem RdM.at {w : World} {a : Option Addr} {n cap : Nat} {zs : List (List Int)} (h : RdM w (.slice a n cap) zs) (hn : 0 < n) :
    ∃ (b off : Nat) (U : Nat → Value), a = some ⟨b, off, none⟩ ∧ b < w.heap.size ∧ ∀ i, i < n → w.cell? ⟨b, off + i, none⟩ = some (U i) ∧ Rd w (U i) (zs.getD i []) := by
  obtain ⟨a', c', he, -, -, hop⟩ := h.open
  injection he with h2 h3 h4
  subst h2; subst h3
  exact hop hn
/-- The i-th row, as a slice. -/
theorem RdM.row {w : World} {a : Option Addr} {n cap : Nat} {zs : List (List Int)} (h : RdM w (.slice a n cap) zs) {i : Nat} (hi : i < n) :
    ∃ (b off : Nat) (a' : Option Addr) (c' : Nat), a = some ⟨b, off, none⟩ ∧ b < w.heap.size ∧ w.cell? ⟨b, off + i, none⟩ = some (.slice a' (zs.getD i []).length c') ∧ Rd w (.slice a' (zs.getD i []).length c') (zs.getD i []) := by
  obtain ⟨b, off, U, rfl, hb, hU⟩ := h.at (by omega)
  obtain ⟨h1, h2⟩ := hU i hi
  obtain ⟨a', c', he, -, -⟩ := h2.slice
  rw [he] at h1 h2
  exact ⟨b, off, a', c', rfl, hb, h1, h2⟩
set_option maxHeartbeats 800000 in
set_option maxRecDepth 20000 in
theorem wrong_any (a : Option Addr) (n c : Nat) (M : List (List Int)) (w : World) (h : RdM w (.slice a n c) M) :
    Calls Try.prog 12 #[.slice a n c] w fun e w' => e = .returned (.int .i64 (wrongN M : Nat)) ∧ w = w' := by
  obtain ⟨hl, hc1, hc2⟩ := h.lenEq
  by_cases hn : n < 1
  · obtain rfl : n = 0 := by omega
    have hw : wrongN M = 2 := by unfold wrongN; rw [if_pos (by omega)]
    rw [hw]
    clear h hl hc1 hc2 hn hw
    go_enter Try.func12, Try.ntmps12
    go_wp2_with fail
    go_ret
    exact ⟨rfl, rfl⟩
  have f1 : decide ((n : Int) < 1) = false := decide_eq_false (by omega)
  have f1' : decide (n < 1) = false := decide_eq_false (by omega)
  by_cases hn5 : 5 < n
  · have hw : wrongN M = 2 := by unfold wrongN; rw [if_pos (by omega)]
    rw [hw]
    have f2 : decide (5 < (n : Int)) = true := decide_eq_true (by omega)
    have f2' : decide (5 < n) = true := decide_eq_true (by omega)
    clear h hl hn hw hn5
    go_enter Try.func12, Try.ntmps12
    go_wp2_with fail
    go_ret
    exact ⟨rfl, rfl⟩
  have f2 : decide (5 < (n : Int)) = false := decide_eq_false (by omega)
  have f2' : decide (5 < n) = false := decide_eq_false (by omega)
  have HW : Hid (wrongN M = wrongR n (M.drop 0)) := by show _ = _; unfold wrongN; rw [if_neg (by omega), hl]; rfl
  have HD : Hid (∀ i, i < n → wrongR n (M.drop i) = if rowErr n (M.getD i []) = 0 then wrongR n (M.drop (i + 1)) else rowErr n (M.getD i [])) := fun i hi => by
    show _ = _
    rw [drop_at M i [] (by rw [hl]; exact hi)]; rfl
  have HZ : Hid (wrongR n (M.drop n) = 0) := by show _ = _; rw [List.drop_of_length_le (by rw [hl]; exact Nat.le_refl _)]; rfl
  have HR := Lib.hid h
  have hn5' : n ≤ 5 := by omega
  clear h hl hn5 hn
  go_enter Try.func12, Try.ntmps12
  go_wp2_with fail
  go_loop [18] (fun iv => ∃ i : Nat, i ≤ n ∧ iv = .int .i64 i ∧ Hid (wrongN M = wrongR n (M.drop i))) (fun iv => n - (intOf iv).toNat)
  case atStart => exact ⟨0, Nat.zero_le _, rfl, HW.out⟩
  case round =>
    clear HW
    obtain ⟨i, hi, rfl, HW⟩ := hrel
    by_cases hil : i < n
    · obtain ⟨b, off, a', c', rfl, hb, cr, hr⟩ := HR.out.row hil
      have hiI : (i : Int) < (n : Int) := by omega
      have hd := HD.out i hil
      obtain ⟨r, hre⟩ : ∃ r, M.getD i [] = r := ⟨_, rfl⟩
      rw [hre] at hd cr hr
      have HDi := Lib.hid hd
      have HRr := Lib.hid hr
      clear hre hd hr
      generalize hlr : r.length = k at *
      have HLR := Lib.hid hlr
      clear hlr
      by_cases hk : k = n
      · subst hk
        have hkk : ((k : Int) != (k : Int)) = false := by simp
        have HER : Hid (rowErr k r = errS (r.drop 0) 0) := by show _ = _; unfold rowErr; rw [if_pos HLR.out]; rfl
        have HES : Hid (∀ j, j < k → ∀ s, errS (r.drop j) s = if 0 ≤ r.getD j 0 ∧ r.getD j 0 ≤ 9 then errS (r.drop (j + 1)) (s + r.getD j 0) else 2) := fun j hj s => by
          show _ = _
          rw [drop_at r j 0 (by rw [HLR.out]; exact hj)]; rfl
        have HEZ : Hid (∀ s, errS (r.drop k) s = if s = 0 then 3 else 0) := fun s => by
          show _ = _
          rw [List.drop_of_length_le (by rw [HLR.out]; exact Nat.le_refl _)]; rfl
        go_wp2_with fail
        go_loop [29, 5] (fun jv sv => ∃ (j : Nat) (s : Int), j ≤ k ∧ jv = .int .i64 j ∧ sv = .int .i64 s ∧ 0 ≤ s ∧ s ≤ 9 * j ∧ Hid (rowErr k r = errS (r.drop j) s)) (fun jv _ => k - (intOf jv).toNat)
        case atStart => exact ⟨0, 0, Nat.zero_le _, rfl, rfl, Int.le_refl _, by omega, HER.out⟩
        case round =>
          clear HER
          obtain ⟨j, s, hj, rfl, rfl, hs0, hs9, HE⟩ := hrel
          by_cases hjl : j < k
          · have hjI : (j : Int) < (k : Int) := by omega
            obtain ⟨b2, off2, rfl, hb2, hc2'⟩ := HRr.out.at (by omega)
            have cx := hc2' j hjl
            have hes := HES.out j hjl s
            have HEj := Lib.hid (HE.out.trans hes)
            clear hc2' hes
            generalize r.getD j 0 = x at *
            by_cases hx0 : x < 0
            · have d1 : decide (x < 0) = true := decide_eq_true hx0
              have HW2 : Hid (wrongN M = 2) := by show _ = _; rw [HW.out, HDi.out, HEj.out, if_neg (show ¬ (0 ≤ x ∧ x ≤ 9) by omega)]; rfl
              clear hx0
              go_wp2_with fail
              go_ret
              exact ⟨by rw [HW2.out]; rfl, rfl⟩
            · have d1 : decide (x < 0) = false := decide_eq_false hx0
              by_cases hx9 : 9 < x
              · have d2 : decide (9 < x) = true := decide_eq_true hx9
                have HW2 : Hid (wrongN M = 2) := by show _ = _; rw [HW.out, HDi.out, HEj.out, if_neg (show ¬ (0 ≤ x ∧ x ≤ 9) by omega)]; rfl
                clear hx0 hx9
                go_wp2_with fail
                go_ret
                exact ⟨by rw [HW2.out]; rfl, rfl⟩
              · have d2 : decide (9 < x) = false := decide_eq_false hx9
                have hx1 : 0 ≤ x := by omega
                have hx2 : x ≤ 9 := by omega
                have HEn : Hid (rowErr k r = errS (r.drop (j + 1)) (s + x)) := by show _ = _; rw [HEj.out, if_pos ⟨hx1, hx2⟩]
                clear hx0 hx9
                go_wp2_with fail
                go_round
                case rel => exact ⟨j + 1, s + x, by omega, by go_num, rfl, by omega, by omega, HEn.out⟩
                case measure => simp [intOf]; omega
          · obtain rfl : j = k := by omega
            have hez := HEZ.out s
            have HEj := Lib.hid (HE.out.trans hez)
            clear hez
            by_cases hs : s = 0
            · have d3 : (s == 0) = true := by rw [beq_iff_eq]; exact hs
              have HW2 : Hid (wrongN M = 3) := by show _ = _; rw [HW.out, HDi.out, HEj.out, if_pos hs]; rfl
              clear hs
              go_wp2_with fail
              go_ret
              exact ⟨by rw [HW2.out]; rfl, rfl⟩
            · have d3 : (s == 0) = false := by rw [beq_eq_false_iff_ne]; exact hs
              have HW2 : Hid (wrongN M = wrongR j (M.drop (i + 1))) := by show _ = _; rw [HW.out, HDi.out, HEj.out, if_neg hs]; rfl
              clear hs
              go_wp2_with fail
              exact ⟨⟨i + 1, by omega, by go_num, HW2.out⟩, by simp [intOf]; omega⟩
      · have hkk : ((k : Int) != (n : Int)) = true := by rw [bne_iff_ne]; omega
        have HR1 : Hid (rowErr n r = 1) := by show _ = _; unfold rowErr; rw [if_neg (by rw [HLR.out]; exact hk)]
        have HW1 : Hid (wrongN M = 1) := by show _ = _; rw [HW.out, HDi.out, HR1.out]; rfl
        clear hk
        go_wp2_with fail
        go_ret
        exact ⟨by rw [HW1.out]; rfl, rfl⟩
    · obtain rfl : i = n := by omega
      have HW0 : Hid (wrongN M = 0) := HW.out.trans HZ.out
      go_wp2_with fail
      go_ret
      exact ⟨by rw [HW0.out]; rfl, rfl⟩
theorem sumL_take (r : List Int) (j : Nat) (h : j < r.length) : sumL (r.take (j + 1)) = sumL (r.take j) + r.getD j 0 := by
  have happ : ∀ l : List Int, ∀ b, sumL (l ++ [b]) = sumL l + b := by
    intro l b
    induction l with
    | nil => simp [sumL]
    | cons c r ih => show c + sumL (r ++ [b]) = c + sumL r + b; rw [ih]; omega
  rw [List.take_add_one, List.getElem?_eq_getElem h, List.getD_eq_getElem?_getD, List.getElem?_eq_getElem h]
  exact happ _ _
theorem sumL_bd (B : Int) : ∀ l : List Int, (∀ x ∈ l, -B ≤ x ∧ x ≤ B) → -(B * l.length) ≤ sumL l ∧ sumL l ≤ B * l.length
  | [], _ => by simp [sumL]
  | x :: r, h => by
    have h1 := sumL_bd B r fun y hy => h y (List.mem_cons_of_mem _ hy)
    have h2 := h x List.mem_cons_self
    have e : B * ((x :: r).length : Int) = B * (r.length : Int) + B := by rw [List.length_cons, Int.natCast_add, Int.mul_add]; simp
    rw [e]
    unfold sumL
    omega
end Go.Proofs.Ytidnmdfpnmahpaa
