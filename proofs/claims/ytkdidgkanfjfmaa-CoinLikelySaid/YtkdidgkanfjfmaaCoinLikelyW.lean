/- The walk of CoinLikely. No condition. -/
import Derived.Test.YtkdidgkanfjfmaaMore
import Derived.Deep.RegionHeld3
set_option linter.unusedSimpArgs false
set_option linter.unusedVariables false
namespace Go.Proofs.Ytkdidgkanfjfmaa.coinLikely
open Go.RowKit Go.Proofs.Ytkdidgkanfjfmaa Go.WideShapes Go.ChangeShapes Go.ChangeAt
theorem yes_le (o : Option (Bool × Nat)) : yes o ≤ 1 := by have := three o; omega
theorem nos_le (o : Option (Bool × Nat)) : nos o ≤ 1 := by have := three o; omega
theorem ends_le (o : Option (Bool × Nat)) : ends o ≤ 1 := by have := three o; omega
theorem tot3 (f : Nat → Option (Bool × Nat)) (k : Nat) : tot (fun x => yes (f x)) k + tot (fun x => nos (f x)) k + tot (fun x => ends (f x)) k = k := by
  induction k with
  | zero => rfl
  | succ k ih => have := three (f k); rw [tot, tot, tot]; omega
theorem keep2 {w w1 : World} {g : Nat} {a b : Value} (hs : w.cell? ⟨g, 0, none⟩ = some a ∧ w.cell? ⟨g, 1, none⟩ = some b) (hb : Below w.heap.size w w1) : w1.cell? ⟨g, 0, none⟩ = some a ∧ w1.cell? ⟨g, 1, none⟩ = some b :=
  ⟨((bcell hb).1 _ _ (World.block_lt_of_cell? w _ hs.1)).trans hs.1, ((bcell hb).1 _ _ (World.block_lt_of_cell? w _ hs.2)).trans hs.2⟩
set_option maxRecDepth 10000 in
set_option maxHeartbeats 3200000 in
theorem walk_main (num den n : Nat) (h1 : 1 ≤ den) (h2 : den ≤ 1073741824) (h3 : num ≤ den) (h4 : n ≤ 10) (w : World) :
    Calls Try.prog 3 #[.agg #[.int .i64 num, .int .i64 den], .int .i64 n] w fun e w' => e = .returned (.bool true) ∧ Below w.heap.size w w' := by
  have HT := Lib.hid (fun v z w h => toss_ok v z num den h1 (by omega) h3 w h)
  have HR := Lib.hid (fun w => right_any num den w)
  rw [decide_eq_true (show RightP num den from ⟨by omega, by omega, by omega, by omega⟩)] at HR
  have HBits := Lib.hid (fun x hx w => bits_tp x n (by omega) hx w)
  have hIn := Lib.hid (fun x q (hq : tossN num den (tp n x) = some q) => (tossN_in hq).1)
  have hN : (2 : Int) ^ n = ((2 ^ n : Nat) : Int) := by simp
  have hN1 : 2 ^ n ≤ 1024 := Nat.pow_le_pow_right (n := 2) (by decide) h4
  obtain ⟨a1, a2⟩ := all_tossN num den h1 h3 n
  have a3 := tot3 (fun x => tossN num den (tp n x)) (2 ^ n)
  have hM : (num : Int) * ((2 ^ n : Nat) : Int) = ((num * 2 ^ n : Nat) : Int) := by simp
  have hMb : num * 2 ^ n ≤ 1073741824 * 1024 := Nat.mul_le_mul (by omega) hN1
  generalize num * 2 ^ n = M at *
  generalize 2 ^ n = N at *
  have hMd : (M : Int) / (den : Int) = ((M / den : Nat) : Int) := by simp
  have hMm : (M : Int) % (den : Int) = ((M % den : Nat) : Int) := by simp
  obtain ⟨fY, hY⟩ : ∃ f, f = tot (fun x => yes (tossN num den (tp n x))) := ⟨_, rfl⟩
  obtain ⟨fO, hO⟩ : ∃ f, f = tot (fun x => nos (tossN num den (tp n x))) := ⟨_, rfl⟩
  obtain ⟨fE, hE⟩ : ∃ f, f = tot (fun x => ends (tossN num den (tp n x))) := ⟨_, rfl⟩
  have Y0 : Hid (fY 0 = 0) := by show _ = _; rw [hY]; rfl
  have O0 : Hid (fO 0 = 0) := by show _ = _; rw [hO]; rfl
  have E0 : Hid (fE 0 = 0) := by show _ = _; rw [hE]; rfl
  have YS : Hid (∀ x, fY (x + 1) = fY x + yes (tossN num den (tp n x))) := fun x => by rw [hY]; rfl
  have OS : Hid (∀ x, fO (x + 1) = fO x + nos (tossN num den (tp n x))) := fun x => by rw [hO]; rfl
  have ES : Hid (∀ x, fE (x + 1) = fE x + ends (tossN num den (tp n x))) := fun x => by rw [hE]; rfl
  have YB : Hid (∀ x, fY x ≤ x) := fun x => by rw [hY]; have := tot_le (k := x) (c := 1) (fun i _ => yes_le (tossN num den (tp n i))); omega
  have OB' : Hid (∀ x, fO x ≤ x) := fun x => by rw [hO]; have := tot_le (k := x) (c := 1) (fun i _ => nos_le (tossN num den (tp n i))); omega
  have EB : Hid (∀ x, fE x ≤ x) := fun x => by rw [hE]; have := tot_le (k := x) (c := 1) (fun i _ => ends_le (tossN num den (tp n i))); omega
  rw [← hY] at a1
  rw [← hE] at a2
  rw [← hY, ← hO, ← hE] at a3
  clear hY hO hE
  have A1 := Lib.hid a1; have A2 := Lib.hid a2; have A3 := Lib.hid a3
  clear a1 a2 a3
  have d0 : ¬ (den : Int) = 0 := by omega
  have c1 : decide ((n : Int) < 0) = false := by simp
  have c2 : decide (10 < (n : Int)) = false := by simp; omega
  have c3 : decide (1073741824 < (den : Int)) = false := by simp; omega
  go_enter Try.func3, Try.ntmps3
  go_wp2_with fail
  refine (alive_any _).mono ?_
  rintro e w1 ⟨rfl, hb1⟩
  obtain ⟨p0, p1⟩ := cell01 w (.int .i64 num) (.int .i64 den) 23
  have k0 := ((bcell hb1).1 w.heap.size 0 (by simp)).trans p0
  have k1 := ((bcell hb1).1 w.heap.size 1 (by simp)).trans p1
  have K0 := Lib.hid k0; have K1 := Lib.hid k1
  have hgs : w.heap.size < w1.heap.size := by have := hb1.size; simp at this; omega
  have HB := Lib.hid (((Below.refl w.heap.size w).alloc (Nat.le_refl _) (.cells #[.int .i64 num, .int .i64 den] 23)).trans (hb1.mono (by simp)))
  clear hb1 p0 p1
  go_wp2_with fail
  refine (HR.out _).mono ?_
  rintro e w2 ⟨rfl, hb2⟩
  have k0 := ((bcell hb2).1 w.heap.size 0 hgs).trans K0.out
  have k1 := ((bcell hb2).1 w.heap.size 1 hgs).trans K1.out
  have K0 := Lib.hid k0; have K1 := Lib.hid k1
  have HGS := Lib.hid (Nat.lt_of_lt_of_le hgs hb2.size)
  have HB2 := Lib.hid (HB.out.trans (hb2.mono HB.out.size))
  clear hb2 HB hgs HR
  go_wp2_with fail
  clear k0 k1
  go_loopw [5, 6, 7, 33] (fun yv nv ev xv wr => ∃ x : Nat, x ≤ N ∧ xv = .int .i64 x ∧ yv = .int .i64 (fY x : Nat) ∧ nv = .int .i64 (fO x : Nat) ∧ ev = .int .i64 (fE x : Nat) ∧ Below w.heap.size w wr ∧ Below w2.heap.size w2 wr) (fun _ _ _ xv _ => N - (intOf xv).toNat)
  case atStart => exact ⟨0, Nat.zero_le _, rfl, by rw [Y0.out]; rfl, by rw [O0.out]; rfl, by rw [E0.out]; rfl, HB2.out, Below.refl _ _⟩
  case round =>
    obtain ⟨x, hx, rfl, rfl, rfl, rfl, hbel, hbl2⟩ := hrel
    have yb := YB.out x
    have ob := OB'.out x
    have eb := EB.out x
    have k0 := ((bcell hbl2).1 w.heap.size 0 HGS.out).trans K0.out
    have k1 := ((bcell hbl2).1 w.heap.size 1 HGS.out).trans K1.out
    have HBEL := Lib.hid hbel
    have HBL2 := Lib.hid hbl2
    by_cases hlt : x < N
    · have YS1 := Lib.hid (YS.out x)
      have OS1 := Lib.hid (OS.out x)
      have ES1 := Lib.hid (ES.out x)
      have BT := Lib.hid (HBits.out x (by omega))
      have HIx := Lib.hid (fun q h => hIn.out x q h)
      clear YS OS ES YB OB' EB A1 A2 A3 Y0 O0 E0 hbel hbl2
      generalize fY x = a at *
      generalize fO x = b at *
      generalize fE x = c at *
      have HTx := Lib.hid (fun v w h => HT.out v (tp n x) w h)
      have hl := tp_len n x
      generalize tp n x = t at *
      generalize tossN num den t = o at *
      cases o with
      | none =>
        simp only [tv] at HTx
        simp only [yes, nos, ends] at YS1 OS1 ES1
        go_wp2_with fail
        go_region_held3 (fun w' => w'.cell? ⟨w.heap.size, 0, none⟩ = some (.int .i64 num) ∧ w'.cell? ⟨w.heap.size, 1, none⟩ = some (.int .i64 den)) (first | exact ⟨k0, k1⟩ | exact keep2 (w := wr.drew) ⟨k0, k1⟩ ‹Below wr.drew.heap.size wr.drew _› | exact keep2 (by assumption) (by assumption)) (first | (go_at_call 11; refine (BT.out _).mono ?_; rintro e w3 ⟨hb3, v, rfl, hr⟩) | (go_at_call 10; refine (HTx.out _ _ (by assumption)).mono ?_; rintro e w4 ⟨rfl, hb4⟩))
        have s3 := HBEL.out.drew.trans (hb3.mono HBEL.out.size)
        have HBE := Lib.hid (s3.trans (hb4.mono s3.size))
        have s4 := HBL2.out.drew.trans (hb3.mono HBL2.out.size)
        have HBE2 := Lib.hid (s4.trans (hb4.mono s4.size))
        clear s3 s4 hb3 hb4 hr k0 k1
        go_wp2_with fail
        go_roundw
        case rel => exact ⟨x + 1, by omega, by go_num, by rw [YS1.out]; rfl, by rw [OS1.out]; rfl, by rw [ES1.out]; go_num, HBE.out, HBE2.out⟩
        case measure => simp [intOf]; omega
      | some q =>
        obtain ⟨q1, q2⟩ := q
        have hq := HIx.out _ rfl
        rw [hl] at hq
        simp only at hq
        simp only [tv] at HTx
        cases q1
        · simp only [yes, nos, ends] at YS1 OS1 ES1
          go_wp2_with fail
          go_region_held3 (fun w' => w'.cell? ⟨w.heap.size, 0, none⟩ = some (.int .i64 num) ∧ w'.cell? ⟨w.heap.size, 1, none⟩ = some (.int .i64 den)) (first | exact ⟨k0, k1⟩ | exact keep2 (w := wr.drew) ⟨k0, k1⟩ ‹Below wr.drew.heap.size wr.drew _› | exact keep2 (by assumption) (by assumption)) (first | (go_at_call 11; refine (BT.out _).mono ?_; rintro e w3 ⟨hb3, v, rfl, hr⟩) | (go_at_call 10; refine (HTx.out _ _ (by assumption)).mono ?_; rintro e w4 ⟨rfl, hb4⟩))
          have s3 := HBEL.out.drew.trans (hb3.mono HBEL.out.size)
          have HBE := Lib.hid (s3.trans (hb4.mono s3.size))
          have s4 := HBL2.out.drew.trans (hb3.mono HBL2.out.size)
          have HBE2 := Lib.hid (s4.trans (hb4.mono s4.size))
          clear s3 s4 hb3 hb4 hr k0 k1
          go_wp2_with fail
          go_roundw
          case rel => exact ⟨x + 1, by omega, by go_num, by rw [YS1.out]; rfl, by rw [OS1.out]; go_num, by rw [ES1.out]; rfl, HBE.out, HBE2.out⟩
          case measure => simp [intOf]; omega
        · simp only [yes, nos, ends] at YS1 OS1 ES1
          go_wp2_with fail
          go_region_held3 (fun w' => w'.cell? ⟨w.heap.size, 0, none⟩ = some (.int .i64 num) ∧ w'.cell? ⟨w.heap.size, 1, none⟩ = some (.int .i64 den)) (first | exact ⟨k0, k1⟩ | exact keep2 (w := wr.drew) ⟨k0, k1⟩ ‹Below wr.drew.heap.size wr.drew _› | exact keep2 (by assumption) (by assumption)) (first | (go_at_call 11; refine (BT.out _).mono ?_; rintro e w3 ⟨hb3, v, rfl, hr⟩) | (go_at_call 10; refine (HTx.out _ _ (by assumption)).mono ?_; rintro e w4 ⟨rfl, hb4⟩))
          have s3 := HBEL.out.drew.trans (hb3.mono HBEL.out.size)
          have HBE := Lib.hid (s3.trans (hb4.mono s3.size))
          have s4 := HBL2.out.drew.trans (hb3.mono HBL2.out.size)
          have HBE2 := Lib.hid (s4.trans (hb4.mono s4.size))
          clear s3 s4 hb3 hb4 hr k0 k1
          go_wp2_with fail
          go_roundw
          case rel => exact ⟨x + 1, by omega, by go_num, by rw [YS1.out]; go_num, by rw [OS1.out]; rfl, by rw [ES1.out]; rfl, HBE.out, HBE2.out⟩
          case measure => simp [intOf]; omega
    · obtain rfl : x = N := by omega
      have b1 := A1.out
      have b2 := A2.out
      have b3 := A3.out
      clear A1 A2 A3 YS OS ES YB OB' EB Y0 O0 E0 hbel hbl2
      generalize fY x = a at *
      generalize fO x = b at *
      generalize fE x = c at *
      generalize M / den = dv at *
      generalize M % den = dm at *
      have hadv : a = dv := b1
      have e1 : ((a : Int) == (dv : Int)) = true := by rw [beq_iff_eq]; omega
      have e2 : (a : Int) + (b : Int) + (c : Int) = (x : Int) := by omega
      by_cases hz : dm = 0
      · rw [if_pos hz] at b2
        subst hz b2
        clear b3
        go_wp2_with fail
        go_quiet (fail)
        go_wp2_with fail
        go_quiet (fail)
        go_wp2_with fail
        go_ret
        exact ⟨by simp; omega, (HBEL.out.drewN _).drewN _⟩
      · rw [if_neg hz] at b2
        subst b2
        clear b3
        have e3 : decide (0 < (dm : Int)) = true := decide_eq_true (by omega)
        have e4 : decide (0 < dm) = true := decide_eq_true (by omega)
        go_wp2_with fail
        go_quiet (fail)
        go_wp2_with fail
        go_quiet (fail)
        go_wp2_with fail
        go_ret
        exact ⟨by simp; omega, (HBEL.out.drewN _).drewN _⟩
set_option maxHeartbeats 1600000 in
theorem walk_skip (num den n : Int) (hn : ¬ (RightP num den ∧ 0 ≤ n ∧ n ≤ 10 ∧ den ≤ 1073741824)) (w : World) :
    Calls Try.prog 3 #[.agg #[.int .i64 num, .int .i64 den], .int .i64 n] w fun e w' => e = .returned (.bool true) ∧ Below w.heap.size w w' := by
  have HR := Lib.hid (fun w => right_any num den w)
  by_cases hr : RightP num den
  · rw [decide_eq_true hr] at HR
    have HN : Hid (¬ (0 ≤ n ∧ n ≤ 10 ∧ den ≤ 1073741824)) := fun h => hn ⟨hr, h⟩
    clear hn hr
    go_enter Try.func3, Try.ntmps3
    go_wp2_with fail
    refine (alive_any _).mono ?_
    rintro e w1 ⟨rfl, hb1⟩
    obtain ⟨p0, p1⟩ := cell01 w (.int .i64 num) (.int .i64 den) 23
    have k0 := ((bcell hb1).1 w.heap.size 0 (by simp)).trans p0
    have k1 := ((bcell hb1).1 w.heap.size 1 (by simp)).trans p1
    have hgs : w.heap.size < w1.heap.size := by have := hb1.size; simp at this; omega
    have K0 := Lib.hid k0; have K1 := Lib.hid k1
    have HB := Lib.hid (((Below.refl w.heap.size w).alloc (Nat.le_refl _) (.cells #[.int .i64 num, .int .i64 den] 23)).trans (hb1.mono (by simp)))
    clear hb1 p0 p1
    go_wp2_with fail
    refine (HR.out _).mono ?_
    rintro e w2 ⟨rfl, hb2⟩
    have k0 := ((bcell hb2).1 w.heap.size 0 hgs).trans K0.out
    have k1 := ((bcell hb2).1 w.heap.size 1 hgs).trans K1.out
    have HB2 := Lib.hid (HB.out.trans (hb2.mono HB.out.size))
    clear hb2 HB hgs HR K0 K1
    go_wp2_with fail
    all_goals first
      | (go_ret; exact ⟨by simp, HB2.out⟩)
      | exact absurd (by omega) HN.out
  · rw [decide_eq_false hr] at HR
    clear hn hr
    go_enter Try.func3, Try.ntmps3
    go_wp2_with fail
    refine (alive_any _).mono ?_
    rintro e w1 ⟨rfl, hb1⟩
    obtain ⟨p0, p1⟩ := cell01 w (.int .i64 num) (.int .i64 den) 23
    have k0 := ((bcell hb1).1 w.heap.size 0 (by simp)).trans p0
    have k1 := ((bcell hb1).1 w.heap.size 1 (by simp)).trans p1
    have HB := Lib.hid (((Below.refl w.heap.size w).alloc (Nat.le_refl _) (.cells #[.int .i64 num, .int .i64 den] 23)).trans (hb1.mono (by simp)))
    clear hb1 p0 p1
    go_wp2_with fail
    refine (HR.out _).mono ?_
    rintro e w2 ⟨rfl, hb2⟩
    have HB2 := Lib.hid (HB.out.trans (hb2.mono HB.out.size))
    clear hb2
    go_wp2_with fail
    go_ret
    exact ⟨by simp, HB2.out⟩
theorem walk (p : Int × Int) (n : Int) (w : World) (_ : I64 p.1 ∧ I64 p.2) (_ : (Lit.int .i64 n).wf = true) :
    Calls Try.prog 3 #[.agg #[.int .i64 p.1, .int .i64 p.2], .int .i64 n] w fun e w' => e = .returned (.bool true) ∧ Below w.heap.size w w' := by
  by_cases hn : RightP p.1 p.2 ∧ 0 ≤ n ∧ n ≤ 10 ∧ p.2 ≤ 1073741824
  · obtain ⟨⟨r1, r2, r3, r4⟩, n1, n2, n3⟩ := hn
    have := walk_main p.1.toNat p.2.toNat n.toNat (by omega) (by omega) (by omega) (by omega) w
    rwa [show ((p.1.toNat : Nat) : Int) = p.1 by omega, show ((p.2.toNat : Nat) : Int) = p.2 by omega, show ((n.toNat : Nat) : Int) = n by omega] at this
  · exact walk_skip p.1 p.2 n hn w
end Go.Proofs.Ytkdidgkanfjfmaa.coinLikely
