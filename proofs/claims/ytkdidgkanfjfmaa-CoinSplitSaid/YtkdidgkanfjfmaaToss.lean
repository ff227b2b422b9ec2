/- coin.Right, coin.Toss: what they answer. No condition. -/
import Derived.Test.YtkdidgkanfjfmaaDef
set_option linter.unusedSimpArgs false
set_option linter.unusedVariables false
namespace Go.Proofs.Ytkdidgkanfjfmaa
open Go.RowKit
def frac (num den : Int) : Value := .agg #[.int .i64 num, .int .i64 den]
theorem cell01 (w : World) (x y : Value) (t : TypeId) : (w.alloc (.cells #[x, y] t)).cell? ⟨w.heap.size, 0, none⟩ = some x ∧ (w.alloc (.cells #[x, y] t)).cell? ⟨w.heap.size, 1, none⟩ = some y :=
  ⟨cell_of_row _ _ 0 _ _ _ (heap_alloc_new w _), cell_of_row _ _ 1 _ _ _ (heap_alloc_new w _)⟩
theorem right_any (num den : Int) (w : World) : Calls Try.prog 9 #[.agg #[.int .i64 num, .int .i64 den]] w fun e w' => e = .returned (.bool (decide (RightP num den))) ∧ Below w.heap.size w w' := by
  have hr : Hid (∀ b, b = decide (RightP num den) → decide (RightP num den) = b) := fun b h => h.symm
  by_cases h1 : 1 ≤ den
  · by_cases h2 : den ≤ 1099511627776
    · by_cases h3 : 0 ≤ num
      · by_cases h4 : num ≤ den
        · have HD : Hid (decide (RightP num den) = true) := decide_eq_true ⟨h1, h2, h3, h4⟩
          go_enter Try.func9, Try.ntmps9
          go_wp2_with fail
          go_ret
          exact ⟨by rw [HD.out]; simp, (Below.refl _ _).alloc (Nat.le_refl _) _⟩
        · have HD : Hid (decide (RightP num den) = false) := decide_eq_false (fun h => h4 h.2.2.2)
          have e4 : decide (num ≤ den) = false := decide_eq_false h4
          go_enter Try.func9, Try.ntmps9
          go_wp2_with fail
          go_ret
          exact ⟨by rw [HD.out]; simp, (Below.refl _ _).alloc (Nat.le_refl _) _⟩
      · have HD : Hid (decide (RightP num den) = false) := decide_eq_false (fun h => h3 h.2.2.1)
        have e4 : decide (0 ≤ num) = false := decide_eq_false h3
        go_enter Try.func9, Try.ntmps9
        go_wp2_with fail
        go_ret
        exact ⟨by rw [HD.out]; simp, (Below.refl _ _).alloc (Nat.le_refl _) _⟩
    · have HD : Hid (decide (RightP num den) = false) := decide_eq_false (fun h => h2 h.2.1)
      have e4 : decide (den ≤ 1099511627776) = false := decide_eq_false h2
      go_enter Try.func9, Try.ntmps9
      go_wp2_with fail
      go_ret
      exact ⟨by rw [HD.out]; simp, (Below.refl _ _).alloc (Nat.le_refl _) _⟩
  · have HD : Hid (decide (RightP num den) = false) := decide_eq_false (fun h => h1 h.1)
    have e4 : decide (1 ≤ den) = false := decide_eq_false h1
    go_enter Try.func9, Try.ntmps9
    go_wp2_with fail
    go_ret
    exact ⟨by rw [HD.out]; simp, (Below.refl _ _).alloc (Nat.le_refl _) _⟩
def tv : Option (Bool × Nat) → Value
  | none => .tuple #[.bool false, .int .i64 0, .int .i64 7]
  | some q => .tuple #[.bool q.1, .int .i64 q.2, .int .i64 0]
theorem toss_bad (v : Value) (num den : Int) (h : ¬ RightP num den) (w : World) : Calls Try.prog 10 #[v, .agg #[.int .i64 num, .int .i64 den]] w fun e w' => e = .returned (.tuple #[.bool false, .int .i64 0, .int .i64 2]) ∧ Below w.heap.size w w' := by
  have HR := Lib.hid (fun w => right_any num den w)
  rw [decide_eq_false h] at HR
  clear h
  go_enter Try.func10, Try.ntmps10
  go_wp2_with fail
  refine (HR.out _).mono ?_
  rintro e w1 ⟨rfl, hb⟩
  have HB := Lib.hid (((Below.refl w.heap.size w).alloc (Nat.le_refl _) (.cells #[.int .i64 num, .int .i64 den] 23)).trans (hb.mono (by simp)))
  clear hb
  go_wp2_with fail
  go_ret3
  exact ⟨rfl, HB.out⟩
set_option maxHeartbeats 1600000 in
theorem toss_ok (v : Value) (z : List Bool) (num den : Nat) (h1 : 1 ≤ den) (h2 : den ≤ 1099511627776) (h3 : num ≤ den) (w : World) (h : RdB w v z) :
    Calls Try.prog 10 #[v, .agg #[.int .i64 num, .int .i64 den]] w fun e w' => e = .returned (tv (tossN num den z)) ∧ Below w.heap.size w w' := by
  obtain ⟨a, cap, rfl, hlc, hcm, -⟩ := h.open
  have HRD := Lib.hid h
  clear h
  have HR := Lib.hid (fun w => right_any num den w)
  rw [decide_eq_true (show RightP num den from ⟨by omega, by omega, by omega, by omega⟩)] at HR
  go_enter Try.func10, Try.ntmps10
  go_wp2_with fail
  refine (HR.out _).mono ?_
  rintro e w1 ⟨rfl, hb⟩
  have bb := ((Below.refl w.heap.size w).alloc (Nat.le_refl _) (.cells #[.int .i64 num, .int .i64 den] 23)).trans (hb.mono (by simp))
  have HB := Lib.hid bb
  have HRD1 := Lib.hid (HRD.out.below bb (Nat.le_refl _))
  obtain ⟨c0, c1⟩ := cell01 w (.int .i64 num) (.int .i64 den) 23
  have k0 := ((bcell hb).1 w.heap.size 0 (by simp)).trans c0
  have k1 := ((bcell hb).1 w.heap.size 1 (by simp)).trans c1
  clear hb bb c0 c1 HRD HR
  by_cases e1 : num = den
  · subst e1
    have HE : Hid (tossN num num z = some (true, 0)) := by show _ = _; unfold tossN; rw [if_pos rfl]
    have e2 : ((num : Int) == (num : Int)) = true := by simp
    go_wp2_with fail
    go_ret3
    exact ⟨by rw [HE.out]; rfl, HB.out⟩
  · by_cases e2 : num = 0
    · subst e2
      have HE : Hid (tossN 0 den z = some (false, 0)) := by show _ = _; unfold tossN; rw [if_neg e1, if_pos rfl]
      have e3 : ((0 : Int) == (den : Int)) = false := by rw [beq_eq_false_iff_ne]; omega
      have e4 : (((0 : Nat) : Int) == (den : Int)) = false := by rw [beq_eq_false_iff_ne]; omega
      go_wp2_with fail
      go_ret3
      exact ⟨by rw [HE.out]; rfl, HB.out⟩
    · have HE : Hid (tossN num den z = tossF den num z) := by show _ = _; unfold tossN; rw [if_neg e1, if_neg e2]
      have e3 : ((num : Int) == (den : Int)) = false := by rw [beq_eq_false_iff_ne]; omega
      have e4 : ((num : Int) == 0) = false := by rw [beq_eq_false_iff_ne]; omega
      obtain ⟨a', cap', he, -, -, hop⟩ := HRD1.out.open
      cases he
      have HOP := Lib.hid hop
      clear hop HRD1
      go_wp2_with fail
      go_loop [7, 29] (fun rv iv => ∃ r i : Nat, i ≤ z.length ∧ iv = .int .i64 i ∧ rv = .int .i64 r ∧ 0 < r ∧ r < den ∧ Hid (tossF den num z = (tossF den r (z.drop i)).map fun q => (q.1, q.2 + i))) (fun _ iv => z.length - (intOf iv).toNat)
      case atStart => exact ⟨num, 0, Nat.zero_le _, rfl, rfl, by omega, by omega, by show _ = _; simp⟩
      case round =>
        obtain ⟨r, i, hi, rfl, rfl, hr0, hr1, ht⟩ := hrel
        by_cases hlt : i < z.length
        · obtain ⟨b, off, rfl, hbl, hc⟩ := HOP.out i hlt
          have cc := hc i hlt
          have hdr : z.drop i = z.getD i false :: z.drop (i + 1) := by
            rw [List.drop_eq_getElem_cons hlt]; simp [List.getD_eq_getElem?_getD, List.getElem?_eq_getElem hlt]
          clear hc
          generalize z.getD i false = x at *
          rw [hdr, tossF] at ht
          clear hdr
          by_cases ho : den ≤ 2 * r
          · rw [decide_eq_true ho, show nxt den r = 2 * r - den by unfold nxt; rw [if_pos ho]] at ht
            have d1 : decide ((den : Int) ≤ (r : Int) * 2) = true := decide_eq_true (by omega)
            have d2 : (r : Int) * 2 - (den : Int) = ((2 * r - den : Nat) : Int) := by omega
            have hnl : 2 * r - den < den := by omega
            cases x
            · have HT : Hid (tossF den num z = some (true, i + 1)) := by show _ = _; rw [ht.out, if_neg (by decide)]; simp; omega
              clear ht
              generalize 2 * r - den = r2 at *
              go_wp2_with fail
              go_ret3
              exact ⟨by rw [HE.out, HT.out]; rfl, HB.out⟩
            · rw [if_pos rfl] at ht
              generalize 2 * r - den = r2 at *
              by_cases hz : r2 = 0
              · subst hz
                have HT : Hid (tossF den num z = some (false, i + 1)) := by show _ = _; rw [ht.out, if_pos rfl]; simp; omega
                clear ht
                go_wp2_with fail
                go_ret3
                exact ⟨by rw [HE.out, HT.out]; rfl, HB.out⟩
              · have HT : Hid (tossF den num z = (tossF den r2 (z.drop (i + 1))).map fun q => (q.1, q.2 + (i + 1))) := by
                  show _ = _; rw [ht.out, if_neg hz, Option.map_map]; congr 1; funext q; simp; omega
                have hz2 : ((r2 : Int) == 0) = false := by rw [beq_eq_false_iff_ne]; omega
                clear ht
                go_wp2_with fail
                go_round
                case rel => exact ⟨r2, i + 1, by omega, by go_num, by go_num, by omega, by omega, HT.out⟩
                case measure => simp [intOf]; omega
          · rw [decide_eq_false ho, show nxt den r = 2 * r by unfold nxt; rw [if_neg ho]] at ht
            have d1 : decide ((den : Int) ≤ (r : Int) * 2) = false := decide_eq_false (by omega)
            cases x
            · have HT : Hid (tossF den num z = (tossF den (2 * r) (z.drop (i + 1))).map fun q => (q.1, q.2 + (i + 1))) := by
                show _ = _; rw [ht.out, if_pos rfl, if_neg (by omega), Option.map_map]; congr 1; funext q; simp; omega
              have hz2 : ((r : Int) * 2 == 0) = false := by rw [beq_eq_false_iff_ne]; omega
              clear ht
              go_wp2_with fail
              go_round
              case rel => exact ⟨2 * r, i + 1, by omega, by go_num, by go_num, by omega, by omega, HT.out⟩
              case measure => simp [intOf]; omega
            · have HT : Hid (tossF den num z = some (false, i + 1)) := by show _ = _; rw [ht.out, if_neg (by decide)]; simp; omega
              clear ht
              go_wp2_with fail
              go_ret3
              exact ⟨by rw [HE.out, HT.out]; rfl, HB.out⟩
        · obtain rfl : i = z.length := by omega
          have HT : Hid (tossF den num z = none) := by show _ = _; rw [ht.out, List.drop_length]; rfl
          clear ht
          go_wp2_with fail
          go_ret3
          exact ⟨by rw [HE.out, HT.out]; rfl, HB.out⟩
end Go.Proofs.Ytkdidgkanfjfmaa
