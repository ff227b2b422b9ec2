/- The walk of CoinTurns. No condition. -/
import Derived.Test.YtkdidgkanfjfmaaMore
import Derived.Deep.RegionHeld3
set_option linter.unusedSimpArgs false
set_option linter.unusedVariables false
namespace Go.Proofs.Ytkdidgkanfjfmaa.coinTurns
open Go.RowKit Go.Proofs.Ytkdidgkanfjfmaa Go.WideShapes Go.ChangeShapes Go.ChangeAt
theorem turnF_cnt {num den : Nat} (h0 : num ≠ 0) : ∀ (f : Nat) (t : List Bool) (q : Nat × Nat), turnF num den f t = some q → q.1 ≤ q.2 + 1
  | 0, t, q, h => by cases h
  | f + 1, t, q, h => by
    rw [turnF] at h
    cases hb : tossN num den t with
    | none => rw [hb] at h; cases h
    | some p =>
      obtain ⟨a, u⟩ := p
      have hu := (tossN_in hb).2
      rw [hb] at h
      cases a
      · simp only [Option.map_eq_some_iff] at h
        obtain ⟨q', h1, rfl⟩ := h
        have := turnF_cnt h0 f _ q' h1
        have := hu rfl h0
        simp only at this ⊢
        omega
      · cases h; exact Nat.le_add_left _ _
theorem walk_bad (a : Option Addr) (len cap : Nat) (z : List Bool) (num den : Int) (hbad : ¬ RightP num den ∨ num = 0) (w : World) (h : RdB w (.slice a len cap) z) :
    Calls Try.prog 5 #[.slice a len cap, .agg #[.int .i64 num, .int .i64 den]] w fun e w' => e = .returned (.bool true) ∧ Below w.heap.size w w' := by
  have HTB := Lib.hid (fun w => turn_bad (.slice a len cap) num den hbad w)
  clear hbad
  go_enter Try.func5, Try.ntmps5
  go_wp2_with fail
  refine (alive_any _).mono ?_
  rintro e w1 ⟨rfl, hb1⟩
  obtain ⟨p0, p1⟩ := cell01 w (.int .i64 num) (.int .i64 den) 23
  have k0 := ((bcell hb1).1 w.heap.size 0 (by simp)).trans p0
  have k1 := ((bcell hb1).1 w.heap.size 1 (by simp)).trans p1
  have HB := Lib.hid (((Below.refl w.heap.size w).alloc (Nat.le_refl _) (.cells #[.int .i64 num, .int .i64 den] 23)).trans (hb1.mono (by simp)))
  clear hb1 p0 p1
  go_wp2_with fail
  refine (HTB.out _).mono ?_
  rintro e w2 ⟨rfl, hb2⟩
  have HB2 := Lib.hid (HB.out.trans (hb2.mono HB.out.size))
  clear hb2
  go_wp2_with fail
  go_ret
  exact ⟨by simp, HB2.out⟩
set_option maxHeartbeats 3200000 in
theorem walk_ok (a : Option Addr) (len cap : Nat) (z : List Bool) (hzl : z.length ≤ 1152921504606846976) (num den : Nat) (h1 : 1 ≤ num) (h2 : den ≤ 1099511627776) (h3 : num ≤ den) (w : World) (h : RdB w (.slice a len cap) z) :
    Calls Try.prog 5 #[.slice a len cap, .agg #[.int .i64 num, .int .i64 den]] w fun e w' => e = .returned (.bool true) ∧ Below w.heap.size w w' := by
  have HTU := Lib.hid (fun w h => turn_ok (.slice a len cap) z hzl num den h1 h2 h3 w h)
  have HT := Lib.hid (fun v z w h => toss_ok v z num den (by omega) h2 h3 w h)
  obtain ⟨l1, l2, l3, -⟩ := h.app
  have HRD := Lib.hid h
  clear h
  go_enter Try.func5, Try.ntmps5
  go_wp2_with fail
  refine (alive_any _).mono ?_
  rintro e w1 ⟨rfl, hb1⟩
  obtain ⟨p0, p1⟩ := cell01 w (.int .i64 num) (.int .i64 den) 23
  have k0 := ((bcell hb1).1 w.heap.size 0 (by simp)).trans p0
  have k1 := ((bcell hb1).1 w.heap.size 1 (by simp)).trans p1
  have hB := (((Below.refl w.heap.size w).alloc (Nat.le_refl _) (.cells #[.int .i64 num, .int .i64 den] 23)).trans (hb1.mono (by simp)))
  have hgs : w.heap.size < w1.heap.size := by have := hb1.size; simp at this; omega
  have HTU1 := Lib.hid (HTU.out _ (HRD.out.below hB (Nat.le_refl _)))
  have HB := Lib.hid hB
  have HGS := Lib.hid hgs
  have HFT := Lib.hid (fun q hq => turnF_in (num := num) (den := den) (z.length + 1) z q hq)
  obtain ⟨o, ho⟩ : ∃ o, turnF num den (z.length + 1) z = o := ⟨_, rfl⟩
  rw [ho] at HTU1
  clear hb1 p0 p1 hB HTU
  cases o with
  | none =>
    simp only [uv] at HTU1
    go_wp2_with fail
    refine HTU1.out.mono ?_
    rintro e w2 ⟨rfl, hb2⟩
    have HB2 := Lib.hid (HB.out.trans (hb2.mono HB.out.size))
    clear hb2
    go_wp2_with fail
    go_ret
    exact ⟨by simp, HB2.out⟩
  | some q =>
    obtain ⟨m, u⟩ := q
    obtain ⟨hm1, hul⟩ := HFT.out _ ho
    have hmb := turnF_cnt (by omega) _ _ _ ho
    simp only at hmb
    simp only at hm1 hul
    simp only [uv] at HTU1
    have HO := Lib.hid ho
    have g1 : decide ((u : Int) < 0) = false := by simp
    have g2 : decide (len < u) = false := decide_eq_false (by omega)
    have g3 : decide ((len : Int) < (u : Int)) = false := decide_eq_false (by omega)
    clear ho HFT
    go_wp2_with fail
    refine HTU1.out.mono ?_
    rintro e w2 ⟨rfl, hb2⟩
    have K0 := Lib.hid (((bcell hb2).1 w.heap.size 0 hgs).trans k0)
    have K1 := Lib.hid (((bcell hb2).1 w.heap.size 1 hgs).trans k1)
    have HGS := Lib.hid (Nat.lt_of_lt_of_le hgs hb2.size)
    have HB2 := Lib.hid (HB.out.trans (hb2.mono HB.out.size))
    have HRD2 := Lib.hid (HRD.out.below HB2.out (Nat.le_refl _))
    clear hb2 k0 k1 hgs HTU1 HB
    go_wp2_with fail
    go_loopw [8, 45] (fun usv kv wr => ∃ us k : Nat, usv = .int .i64 us ∧ kv = .int .i64 k ∧ us ≤ u ∧ k ≤ m ∧ ((k < m ∧ ∃ f, turnF num den f (z.drop us) = some (m - k, u - us)) ∨ (k = m ∧ us = u)) ∧
      Below w.heap.size w wr ∧ Below w2.heap.size w2 wr) (fun _ kv _ => m - (intOf kv).toNat)
    case atStart => exact ⟨0, 0, rfl, rfl, Nat.zero_le _, Nat.zero_le _, .inl ⟨by omega, _, by simpa using HO.out⟩, HB2.out, Below.refl _ _⟩
    case round =>
      obtain ⟨us, k, rfl, rfl, hus, hkm', hR, hbel, hbl1⟩ := hrel
      have HBEL := Lib.hid hbel
      have HBL1 := Lib.hid hbl1
      rcases hR with ⟨hkm, f, ht⟩ | ⟨rfl, rfl⟩
      · have k0 := ((bcell hbl1).1 w.heap.size 0 HGS.out).trans K0.out
        have k1 := ((bcell hbl1).1 w.heap.size 1 HGS.out).trans K1.out
        have hdr := (HRD2.out.below hbl1 (Nat.le_refl _)).drop (k := us) (by omega)
        have HIN := Lib.hid (fun q (hq : tossN num den (z.drop us) = some q) => tossN_in hq)
        cases f with
        | zero => cases ht
        | succ f =>
        rw [show turnF num den (f + 1) (z.drop us) = (match tossN num den (z.drop us) with
          | none => none
          | some (true, u) => some (1, u)
          | some (false, v) => (turnF num den f ((z.drop us).drop v)).map fun q => (q.1 + 1, q.2 + v)) from rfl] at ht
        have H1a := Lib.hid (fun h => HT.out _ _ wr.drew (RdB.drew (hdr.2 h)))
        have H1b := Lib.hid (fun h => HT.out _ _ wr.drew (RdB.drew (hdr.1 h)))
        clear hdr hbel hbl1
        generalize tossN num den (z.drop us) = o at *
        have husl : us ≤ len := by omega
        have husl2 : (us : Int) ≤ (len : Int) := by omega
        by_cases hcu : cap = us
        · have h1 := Lib.hid (H1a.out hcu)
          clear H1a H1b
          subst hcu
          have hlt := Nat.lt_of_lt_of_le HGS.out HBL1.out.size
          cases o with
          | none => cases ht
          | some q =>
            obtain ⟨y, x⟩ := q
            obtain ⟨hx1, hx2⟩ := HIN.out _ rfl
            rw [List.length_drop] at hx1
            simp only at hx1
            simp only [tv] at h1
            clear HIN hx2
            cases y
            · have ht2 : (turnF num den f ((z.drop cap).drop x)).map (fun q => (q.1 + 1, q.2 + x)) = some (m - k, u - cap) := ht
              rw [List.drop_drop, Option.map_eq_some_iff] at ht2
              obtain ⟨q', ht3, he⟩ := ht2
              obtain ⟨q1, q2⟩ := q'
              simp only [Prod.mk.injEq] at he
              obtain ⟨he1, he2⟩ := he
              have hq1 := (turnF_in _ _ _ ht3).1
              simp only at hq1
              have HT : Hid (turnF num den f (z.drop (cap + x)) = some (m - (k + 1), u - (cap + x))) := by
                show _ = _
                rw [ht3]; congr 2 <;> omega
              have hkm : ((k : Int) == (m : Int) - 1) = false := by rw [beq_eq_false_iff_ne]; omega
              have HE1 := Lib.hid he1
              have HE2 := Lib.hid he2
              clear ht ht3 he1 he2
              go_wp2_with fail
              go_region_held3 (fun w' => w'.cell? ⟨w.heap.size, 0, none⟩ = some (.int .i64 num) ∧ w'.cell? ⟨w.heap.size, 1, none⟩ = some (.int .i64 den)) (first | exact ⟨k0, k1⟩ | exact ⟨((bcell ‹Below wr.drew.heap.size wr.drew _›).1 _ 0 hlt).trans k0, ((bcell ‹Below wr.drew.heap.size wr.drew _›).1 _ 1 hlt).trans k1⟩) (first | (go_at_call 10; refine h1.out.mono ?_; rintro e w2 ⟨rfl, hb2⟩))
              have HBE := Lib.hid ((HBEL.out.drew).trans (Below.mono ‹Below wr.drew.heap.size wr.drew _› HBEL.out.size))
              have HBE1 := Lib.hid ((HBL1.out.drew).trans (Below.mono ‹Below wr.drew.heap.size wr.drew _› HBL1.out.size))
              go_wp2_with fail
              go_roundw
              case rel => have he1 := HE1.out; have he2 := HE2.out; exact ⟨cap + x, k + 1, by go_num, by go_num, by omega, by omega, .inl ⟨by omega, f, HT.out⟩, HBE.out, HBE1.out⟩
              case measure => simp [intOf]; omega
            · have ht2 : some (1, x) = some (m - k, u - cap) := ht
              simp only [Option.some.injEq, Prod.mk.injEq] at ht2
              obtain ⟨he1, he2⟩ := ht2
              have hkm : ((k : Int) == (m : Int) - 1) = true := by rw [beq_iff_eq]; omega
              have HE1 := Lib.hid he1
              have HE2 := Lib.hid he2
              clear ht he1 he2
              go_wp2_with fail
              go_region_held3 (fun w' => w'.cell? ⟨w.heap.size, 0, none⟩ = some (.int .i64 num) ∧ w'.cell? ⟨w.heap.size, 1, none⟩ = some (.int .i64 den)) (first | exact ⟨k0, k1⟩ | exact ⟨((bcell ‹Below wr.drew.heap.size wr.drew _›).1 _ 0 hlt).trans k0, ((bcell ‹Below wr.drew.heap.size wr.drew _›).1 _ 1 hlt).trans k1⟩) (first | (go_at_call 10; refine h1.out.mono ?_; rintro e w2 ⟨rfl, hb2⟩))
              have HBE := Lib.hid ((HBEL.out.drew).trans (Below.mono ‹Below wr.drew.heap.size wr.drew _› HBEL.out.size))
              have HBE1 := Lib.hid ((HBL1.out.drew).trans (Below.mono ‹Below wr.drew.heap.size wr.drew _› HBL1.out.size))
              go_wp2_with fail
              go_roundw
              case rel => have he1 := HE1.out; have he2 := HE2.out; exact ⟨cap + x, k + 1, by go_num, by go_num, by omega, by omega, .inr ⟨by omega, by omega⟩, HBE.out, HBE1.out⟩
              case measure => simp [intOf]; omega
        · have h1 := Lib.hid (H1b.out hcu)
          clear H1a H1b
          have hlt := Nat.lt_of_lt_of_le HGS.out HBL1.out.size
          cases o with
          | none => cases ht
          | some q =>
            obtain ⟨y, x⟩ := q
            obtain ⟨hx1, hx2⟩ := HIN.out _ rfl
            rw [List.length_drop] at hx1
            simp only at hx1
            simp only [tv] at h1
            clear HIN hx2
            cases y
            · have ht2 : (turnF num den f ((z.drop us).drop x)).map (fun q => (q.1 + 1, q.2 + x)) = some (m - k, u - us) := ht
              rw [List.drop_drop, Option.map_eq_some_iff] at ht2
              obtain ⟨q', ht3, he⟩ := ht2
              obtain ⟨q1, q2⟩ := q'
              simp only [Prod.mk.injEq] at he
              obtain ⟨he1, he2⟩ := he
              have hq1 := (turnF_in _ _ _ ht3).1
              simp only at hq1
              have HT : Hid (turnF num den f (z.drop (us + x)) = some (m - (k + 1), u - (us + x))) := by
                show _ = _
                rw [ht3]; congr 2 <;> omega
              have hkm : ((k : Int) == (m : Int) - 1) = false := by rw [beq_eq_false_iff_ne]; omega
              have HE1 := Lib.hid he1
              have HE2 := Lib.hid he2
              clear ht ht3 he1 he2
              go_wp2_with fail
              go_region_held3 (fun w' => w'.cell? ⟨w.heap.size, 0, none⟩ = some (.int .i64 num) ∧ w'.cell? ⟨w.heap.size, 1, none⟩ = some (.int .i64 den)) (first | exact ⟨k0, k1⟩ | exact ⟨((bcell ‹Below wr.drew.heap.size wr.drew _›).1 _ 0 hlt).trans k0, ((bcell ‹Below wr.drew.heap.size wr.drew _›).1 _ 1 hlt).trans k1⟩) (first | (go_at_call 10; refine h1.out.mono ?_; rintro e w2 ⟨rfl, hb2⟩))
              have HBE := Lib.hid ((HBEL.out.drew).trans (Below.mono ‹Below wr.drew.heap.size wr.drew _› HBEL.out.size))
              have HBE1 := Lib.hid ((HBL1.out.drew).trans (Below.mono ‹Below wr.drew.heap.size wr.drew _› HBL1.out.size))
              go_wp2_with fail
              go_roundw
              case rel => have he1 := HE1.out; have he2 := HE2.out; exact ⟨us + x, k + 1, by go_num, by go_num, by omega, by omega, .inl ⟨by omega, f, HT.out⟩, HBE.out, HBE1.out⟩
              case measure => simp [intOf]; omega
            · have ht2 : some (1, x) = some (m - k, u - us) := ht
              simp only [Option.some.injEq, Prod.mk.injEq] at ht2
              obtain ⟨he1, he2⟩ := ht2
              have hkm : ((k : Int) == (m : Int) - 1) = true := by rw [beq_iff_eq]; omega
              have HE1 := Lib.hid he1
              have HE2 := Lib.hid he2
              clear ht he1 he2
              go_wp2_with fail
              go_region_held3 (fun w' => w'.cell? ⟨w.heap.size, 0, none⟩ = some (.int .i64 num) ∧ w'.cell? ⟨w.heap.size, 1, none⟩ = some (.int .i64 den)) (first | exact ⟨k0, k1⟩ | exact ⟨((bcell ‹Below wr.drew.heap.size wr.drew _›).1 _ 0 hlt).trans k0, ((bcell ‹Below wr.drew.heap.size wr.drew _›).1 _ 1 hlt).trans k1⟩) (first | (go_at_call 10; refine h1.out.mono ?_; rintro e w2 ⟨rfl, hb2⟩))
              have HBE := Lib.hid ((HBEL.out.drew).trans (Below.mono ‹Below wr.drew.heap.size wr.drew _› HBEL.out.size))
              have HBE1 := Lib.hid ((HBL1.out.drew).trans (Below.mono ‹Below wr.drew.heap.size wr.drew _› HBL1.out.size))
              go_wp2_with fail
              go_roundw
              case rel => have he1 := HE1.out; have he2 := HE2.out; exact ⟨us + x, k + 1, by go_num, by go_num, by omega, by omega, .inr ⟨by omega, by omega⟩, HBE.out, HBE1.out⟩
              case measure => simp [intOf]; omega
      · go_wp2_with fail
        go_ret
        exact ⟨by simp; omega, HBEL.out⟩
theorem walk (a : Option Addr) (len cap : Nat) (z : List Bool) (p : Int × Int) (w : World) (h : IsRowB w a len cap z) (hr : len ≤ 140737488351232) (_ : I64 p.1 ∧ I64 p.2) :
    Calls Try.prog 5 #[.slice a len cap, .agg #[.int .i64 p.1, .int .i64 p.2]] w fun e w' => e = .returned (.bool true) ∧ Below w.heap.size w w' := by
  have hrd := h.rd
  have hl : z.length = len := hrd.app.1
  by_cases hb : RightP p.1 p.2 ∧ p.1 ≠ 0
  · obtain ⟨⟨r1, r2, r3, r4⟩, r5⟩ := hb
    have := walk_ok a len cap z (by omega) p.1.toNat p.2.toNat (by omega) (by omega) (by omega) w hrd
    rwa [show ((p.1.toNat : Nat) : Int) = p.1 by omega, show ((p.2.toNat : Nat) : Int) = p.2 by omega] at this
  · exact walk_bad a len cap z p.1 p.2 (by
      by_cases h1 : RightP p.1 p.2
      · right
        by_cases h2 : p.1 = 0
        · exact h2
        · exact absurd ⟨h1, h2⟩ hb
      · exact .inl h1) w hrd
end Go.Proofs.Ytkdidgkanfjfmaa.coinTurns
