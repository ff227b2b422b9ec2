/- coin.Turn, coin.Of: what they answer. No condition but that weights may be. -/
import Derived.Test.YtkdidgkanfjfmaaToss
import Derived.Test.YtkdidgkanfjfmaaCut
import Derived.Deep.RegionHeld3
set_option linter.unusedSimpArgs false
set_option linter.unusedVariables false
namespace Go.Proofs.Ytkdidgkanfjfmaa
open Go.RowKit
def uv : Option (Nat × Nat) → Value
  | none => .tuple #[.int .i64 0, .int .i64 0, .int .i64 7]
  | some q => .tuple #[.int .i64 q.1, .int .i64 q.2, .int .i64 0]
theorem turn_bad (v : Value) (num den : Int) (h : ¬ RightP num den ∨ num = 0) (w : World) : Calls Try.prog 12 #[v, .agg #[.int .i64 num, .int .i64 den]] w fun e w' => e = .returned (.tuple #[.int .i64 0, .int .i64 0, .int .i64 2]) ∧ Below w.heap.size w w' := by
  have HR := Lib.hid (fun w => right_any num den w)
  by_cases hb : RightP num den
  · rw [decide_eq_true hb] at HR
    have hz : num = 0 := by rcases h with h | h; exact absurd hb h; exact h
    subst hz
    clear h hb
    go_enter Try.func12, Try.ntmps12
    go_wp2_with fail
    refine (HR.out _).mono ?_
    rintro e w1 ⟨rfl, hb⟩
    have HB := Lib.hid (((Below.refl w.heap.size w).alloc (Nat.le_refl _) (.cells #[.int .i64 0, .int .i64 den] 23)).trans (hb.mono (by simp)))
    obtain ⟨c0, c1⟩ := cell01 w (.int .i64 0) (.int .i64 den) 23
    have k0 := ((bcell hb).1 w.heap.size 0 (by simp)).trans c0
    clear hb c0 c1
    go_wp2_with fail
    go_ret3
    exact ⟨rfl, HB.out⟩
  · rw [decide_eq_false hb] at HR
    clear h hb
    go_enter Try.func12, Try.ntmps12
    go_wp2_with fail
    refine (HR.out _).mono ?_
    rintro e w1 ⟨rfl, hb⟩
    have HB := Lib.hid (((Below.refl w.heap.size w).alloc (Nat.le_refl _) (.cells #[.int .i64 num, .int .i64 den] 23)).trans (hb.mono (by simp)))
    clear hb
    go_wp2_with fail
    go_ret3
    exact ⟨rfl, HB.out⟩
set_option maxHeartbeats 1600000 in
theorem turn_ok (v : Value) (z : List Bool) (hzl : z.length ≤ 1152921504606846976) (num den : Nat) (h1 : 1 ≤ num) (h2 : den ≤ 1099511627776) (h3 : num ≤ den) (w : World) (h : RdB w v z) :
    Calls Try.prog 12 #[v, .agg #[.int .i64 num, .int .i64 den]] w fun e w' => e = .returned (uv (turnF num den (z.length + 1) z)) ∧ Below w.heap.size w w' := by
  obtain ⟨a, cap, rfl, hlc, hcm, -⟩ := h.open
  have HRD := Lib.hid h
  clear h
  have HR := Lib.hid (fun w => right_any num den w)
  rw [decide_eq_true (show RightP num den from ⟨by omega, by omega, by omega, by omega⟩)] at HR
  have HT := Lib.hid (fun v z w h => toss_ok v z num den (by omega) h2 h3 w h)
  have e4 : ((num : Int) == 0) = false := by rw [beq_eq_false_iff_ne]; omega
  go_enter Try.func12, Try.ntmps12
  go_wp2_with fail
  refine (HR.out _).mono ?_
  rintro e w1 ⟨rfl, hb⟩
  have bb := ((Below.refl w.heap.size w).alloc (Nat.le_refl _) (.cells #[.int .i64 num, .int .i64 den] 23)).trans (hb.mono (by simp))
  have HB := Lib.hid bb
  have HRD1 := Lib.hid (HRD.out.below bb (Nat.le_refl _))
  obtain ⟨c0, c1⟩ := cell01 w (.int .i64 num) (.int .i64 den) 23
  have k0 := ((bcell hb).1 w.heap.size 0 (by simp)).trans c0
  have k1 := ((bcell hb).1 w.heap.size 1 (by simp)).trans c1
  have hgs : w.heap.size < w1.heap.size := by have := hb.size; simp at this; omega
  have K0 := Lib.hid k0; have K1 := Lib.hid k1; have HGS := Lib.hid hgs
  clear hb bb c0 c1 HRD HR k1 hgs
  go_wp2_with fail
  clear k0
  go_loopw [7, 8] (fun usv nv wr => ∃ u n f : Nat, usv = .int .i64 u ∧ nv = .int .i64 n ∧ u ≤ z.length ∧ 1 ≤ n ∧ n ≤ u + 1 ∧ z.length - u < f ∧
    Hid (turnF num den (z.length + 1) z = (turnF num den f (z.drop u)).map fun q => (q.1 + (n - 1), q.2 + u)) ∧ Below w.heap.size w wr ∧ Below w1.heap.size w1 wr) (fun usv _ _ => z.length - (intOf usv).toNat)
  case atStart => exact ⟨0, 1, z.length + 1, rfl, rfl, Nat.zero_le _, Nat.le_refl _, by omega, by omega, by show _ = _; simp, HB.out, Below.refl _ _⟩
  case round =>
    obtain ⟨u, n, f, rfl, rfl, hu, hn1, hnu, hf, ht, hbel, hbl1⟩ := hrel
    obtain ⟨f, rfl⟩ : ∃ g, f = g + 1 := ⟨f - 1, by omega⟩
    have k0 := ((bcell hbl1).1 w.heap.size 0 HGS.out).trans K0.out
    have k1 := ((bcell hbl1).1 w.heap.size 1 HGS.out).trans K1.out
    have HBEL := Lib.hid hbel
    have HBL1 := Lib.hid hbl1
    have hdr := (HRD1.out.below hbl1 (Nat.le_refl _)).drop hu
    have HT0 := fun (w' : Value) (hr : RdB wr w' (z.drop u)) => HT.out w' _ wr hr
    have HIN := Lib.hid (fun q (hq : tossN num den (z.drop u) = some q) => tossN_in hq)
    rw [show turnF num den (f + 1) (z.drop u) = (match tossN num den (z.drop u) with
      | none => none
      | some (true, u) => some (1, u)
      | some (false, v) => (turnF num den f ((z.drop u).drop v)).map fun q => (q.1 + 1, q.2 + v)) from rfl] at ht
    have H1a := Lib.hid (fun h => HT.out _ _ wr.drew (RdB.drew (hdr.2 h)))
    have H1b := Lib.hid (fun h => HT.out _ _ wr.drew (RdB.drew (hdr.1 h)))
    clear HT0 hdr hbel hbl1
    generalize tossN num den (z.drop u) = o at *
    by_cases hcu : cap = u
    · have h1 := Lib.hid (H1a.out hcu)
      clear H1a H1b
      subst hcu
      have hlt := Nat.lt_of_lt_of_le HGS.out HBL1.out.size
      cases o with
      | none =>
        simp only [tv] at h1
        have HT : Hid (turnF num den (z.length + 1) z = none) := ht.out
        clear ht HIN
        go_wp2_with fail
        go_region_held3 (fun w' => w'.cell? ⟨w.heap.size, 0, none⟩ = some (.int .i64 num) ∧ w'.cell? ⟨w.heap.size, 1, none⟩ = some (.int .i64 den)) (first | exact ⟨k0, k1⟩ | exact ⟨((bcell ‹Below wr.drew.heap.size wr.drew _›).1 _ 0 hlt).trans k0, ((bcell ‹Below wr.drew.heap.size wr.drew _›).1 _ 1 hlt).trans k1⟩) (first | (go_at_call 10; refine h1.out.mono ?_; rintro e w2 ⟨rfl, hb2⟩))
        have HBE := Lib.hid ((HBEL.out.drew).trans (Below.mono ‹Below wr.drew.heap.size wr.drew _› HBEL.out.size))
        have HBE1 := Lib.hid ((HBL1.out.drew).trans (Below.mono ‹Below wr.drew.heap.size wr.drew _› HBL1.out.size))
        go_wp2_with fail
        go_ret3
        exact ⟨by rw [HT.out]; rfl, HBE.out⟩
      | some q =>
        obtain ⟨y, x⟩ := q
        obtain ⟨hx1, hx2⟩ := HIN.out _ rfl
        rw [List.length_drop] at hx1
        simp only at hx1 hx2
        simp only [tv] at h1
        clear HIN
        cases y
        · have hx3 : 1 ≤ x := hx2 rfl (by omega)
          have HT : Hid (turnF num den (z.length + 1) z = (turnF num den f (z.drop (cap + x))).map fun q => (q.1 + (n + 1 - 1), q.2 + (cap + x))) := by
            show _ = _
            rw [ht.out]
            show Option.map _ (Option.map _ (turnF num den f ((z.drop cap).drop x))) = _
            rw [List.drop_drop, Option.map_map]
            congr 1; funext q; simp; omega
          clear ht hx2
          go_wp2_with fail
          go_region_held3 (fun w' => w'.cell? ⟨w.heap.size, 0, none⟩ = some (.int .i64 num) ∧ w'.cell? ⟨w.heap.size, 1, none⟩ = some (.int .i64 den)) (first | exact ⟨k0, k1⟩ | exact ⟨((bcell ‹Below wr.drew.heap.size wr.drew _›).1 _ 0 hlt).trans k0, ((bcell ‹Below wr.drew.heap.size wr.drew _›).1 _ 1 hlt).trans k1⟩) (first | (go_at_call 10; refine h1.out.mono ?_; rintro e w2 ⟨rfl, hb2⟩))
          have HBE := Lib.hid ((HBEL.out.drew).trans (Below.mono ‹Below wr.drew.heap.size wr.drew _› HBEL.out.size))
          have HBE1 := Lib.hid ((HBL1.out.drew).trans (Below.mono ‹Below wr.drew.heap.size wr.drew _› HBL1.out.size))
          go_wp2_with fail
          go_roundw
          case rel => exact ⟨cap + x, n + 1, f, by go_num, by go_num, by omega, by omega, by omega, by omega, HT.out, HBE.out, HBE1.out⟩
          case measure => simp [intOf]; omega
        · have HT : Hid (turnF num den (z.length + 1) z = some (n, cap + x)) := by
            show _ = _
            rw [ht.out]
            show some (1 + (n - 1), x + cap) = some (n, cap + x)
            rw [show 1 + (n - 1) = n by omega, Nat.add_comm x cap]
          clear ht hx2
          go_wp2_with fail
          go_region_held3 (fun w' => w'.cell? ⟨w.heap.size, 0, none⟩ = some (.int .i64 num) ∧ w'.cell? ⟨w.heap.size, 1, none⟩ = some (.int .i64 den)) (first | exact ⟨k0, k1⟩ | exact ⟨((bcell ‹Below wr.drew.heap.size wr.drew _›).1 _ 0 hlt).trans k0, ((bcell ‹Below wr.drew.heap.size wr.drew _›).1 _ 1 hlt).trans k1⟩) (first | (go_at_call 10; refine h1.out.mono ?_; rintro e w2 ⟨rfl, hb2⟩))
          have HBE := Lib.hid ((HBEL.out.drew).trans (Below.mono ‹Below wr.drew.heap.size wr.drew _› HBEL.out.size))
          have HBE1 := Lib.hid ((HBL1.out.drew).trans (Below.mono ‹Below wr.drew.heap.size wr.drew _› HBL1.out.size))
          go_wp2_with fail
          go_ret3
          exact ⟨by rw [HT.out]; rfl, HBE.out⟩
    · have h1 := Lib.hid (H1b.out hcu)
      clear H1a H1b
      have hlt := Nat.lt_of_lt_of_le HGS.out HBL1.out.size
      cases o with
      | none =>
        simp only [tv] at h1
        have HT : Hid (turnF num den (z.length + 1) z = none) := ht.out
        clear ht HIN
        go_wp2_with fail
        go_region_held3 (fun w' => w'.cell? ⟨w.heap.size, 0, none⟩ = some (.int .i64 num) ∧ w'.cell? ⟨w.heap.size, 1, none⟩ = some (.int .i64 den)) (first | exact ⟨k0, k1⟩ | exact ⟨((bcell ‹Below wr.drew.heap.size wr.drew _›).1 _ 0 hlt).trans k0, ((bcell ‹Below wr.drew.heap.size wr.drew _›).1 _ 1 hlt).trans k1⟩) (first | (go_at_call 10; refine h1.out.mono ?_; rintro e w2 ⟨rfl, hb2⟩))
        have HBE := Lib.hid ((HBEL.out.drew).trans (Below.mono ‹Below wr.drew.heap.size wr.drew _› HBEL.out.size))
        have HBE1 := Lib.hid ((HBL1.out.drew).trans (Below.mono ‹Below wr.drew.heap.size wr.drew _› HBL1.out.size))
        go_wp2_with fail
        go_ret3
        exact ⟨by rw [HT.out]; rfl, HBE.out⟩
      | some q =>
        obtain ⟨y, x⟩ := q
        obtain ⟨hx1, hx2⟩ := HIN.out _ rfl
        rw [List.length_drop] at hx1
        simp only at hx1 hx2
        simp only [tv] at h1
        clear HIN
        cases y
        · have hx3 : 1 ≤ x := hx2 rfl (by omega)
          have HT : Hid (turnF num den (z.length + 1) z = (turnF num den f (z.drop (u + x))).map fun q => (q.1 + (n + 1 - 1), q.2 + (u + x))) := by
            show _ = _
            rw [ht.out]
            show Option.map _ (Option.map _ (turnF num den f ((z.drop u).drop x))) = _
            rw [List.drop_drop, Option.map_map]
            congr 1; funext q; simp; omega
          clear ht hx2
          go_wp2_with fail
          go_region_held3 (fun w' => w'.cell? ⟨w.heap.size, 0, none⟩ = some (.int .i64 num) ∧ w'.cell? ⟨w.heap.size, 1, none⟩ = some (.int .i64 den)) (first | exact ⟨k0, k1⟩ | exact ⟨((bcell ‹Below wr.drew.heap.size wr.drew _›).1 _ 0 hlt).trans k0, ((bcell ‹Below wr.drew.heap.size wr.drew _›).1 _ 1 hlt).trans k1⟩) (first | (go_at_call 10; refine h1.out.mono ?_; rintro e w2 ⟨rfl, hb2⟩))
          have HBE := Lib.hid ((HBEL.out.drew).trans (Below.mono ‹Below wr.drew.heap.size wr.drew _› HBEL.out.size))
          have HBE1 := Lib.hid ((HBL1.out.drew).trans (Below.mono ‹Below wr.drew.heap.size wr.drew _› HBL1.out.size))
          go_wp2_with fail
          go_roundw
          case rel => exact ⟨u + x, n + 1, f, by go_num, by go_num, by omega, by omega, by omega, by omega, HT.out, HBE.out, HBE1.out⟩
          case measure => simp [intOf]; omega
        · have HT : Hid (turnF num den (z.length + 1) z = some (n, u + x)) := by
            show _ = _
            rw [ht.out]
            show some (1 + (n - 1), x + u) = some (n, u + x)
            rw [show 1 + (n - 1) = n by omega, Nat.add_comm x u]
          clear ht hx2
          go_wp2_with fail
          go_region_held3 (fun w' => w'.cell? ⟨w.heap.size, 0, none⟩ = some (.int .i64 num) ∧ w'.cell? ⟨w.heap.size, 1, none⟩ = some (.int .i64 den)) (first | exact ⟨k0, k1⟩ | exact ⟨((bcell ‹Below wr.drew.heap.size wr.drew _›).1 _ 0 hlt).trans k0, ((bcell ‹Below wr.drew.heap.size wr.drew _›).1 _ 1 hlt).trans k1⟩) (first | (go_at_call 10; refine h1.out.mono ?_; rintro e w2 ⟨rfl, hb2⟩))
          have HBE := Lib.hid ((HBEL.out.drew).trans (Below.mono ‹Below wr.drew.heap.size wr.drew _› HBEL.out.size))
          have HBE1 := Lib.hid ((HBL1.out.drew).trans (Below.mono ‹Below wr.drew.heap.size wr.drew _› HBL1.out.size))
          go_wp2_with fail
          go_ret3
          exact ⟨by rw [HT.out]; rfl, HBE.out⟩
end Go.Proofs.Ytkdidgkanfjfmaa
