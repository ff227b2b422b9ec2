/- dice.Sum, dice.Die: what they answer. No condition. -/
import Derived.Test.YthaiopgmncnekaaDoorDiceRight
set_option linter.unusedSimpArgs false
set_option linter.unusedVariables false
namespace Go.Proofs.YthaiopgmncnekaaDoor.Dice
open Go.RowKit
theorem Tryd.info3t : (Tryd.prog.info? 3).map (fun i => (i.zero, i.size, i.bytes)) = some (some (.int .i64 0), 1, 8) := by kernel_rfl
def OI (w : World) (base g n : Nat) (f : Nat → Nat) : Prop := w.ownsRow base 3 1 (.slice (some ⟨g, 0, none⟩) n n) n ((tabI n f).map (Value.int .i64))
theorem OI.get {w : World} {base g n : Nat} {f : Nat → Nat} (h : OI w base g n f) (j : Nat) (hj : j < n) : w.cell? ⟨g, j, none⟩ = some (.int .i64 (f j : Nat)) := by
  have := own_get h j hj
  rwa [tabI_get _ _ _ hj] at this
theorem OI.frozen {w : World} {base g n : Nat} {f : Nat → Nat} (h : OI w base g n f) (j : Nat) : w.frozen? ⟨g, j, none⟩ = false := World.ownsRow.frozenAt h j
theorem OI.set {w : World} {base g n : Nat} {f : Nat → Nat} (h : OI w base g n f) (j x : Nat) : OI (w.setCell ⟨g, j, none⟩ (.int .i64 (x : Int))) base g n (fun i => if i = j then x else f i) := by
  have := own_set h j (x : Int)
  rwa [tabI_set] at this
theorem OI.congr {w : World} {base g n : Nat} {f f' : Nat → Nat} (h : OI w base g n f) (he : ∀ i, i < n → f i = f' i) : OI w base g n f' := by
  unfold OI at h ⊢
  rwa [tabI_congr he] at h
theorem OI.lt {w : World} {base g n : Nat} {f : Nat → Nat} (h : OI w base g n f) : base ≤ g ∧ g < w.heap.size := own_lt h
theorem OI.rd {w : World} {base g n : Nat} {f : Nat → Nat} (h : OI w base g n f) : Rd w (.slice (some ⟨g, 0, none⟩) n n) (tabI n f) := Rd.own h
theorem OI.below {w w' : World} {base B g n : Nat} {f : Nat → Nat} (h : OI w base g n f) (hb : Below B w w') (hB : w.heap.size ≤ B) : OI w' base g n f := own_below h hb hB
theorem OI.made {w : World} {base g n : Nat} (h : w.ownsRow base 3 1 (.slice (some ⟨g, 0, none⟩) n n) n (madeCells #[Value.int .i64 0] n).toList) : OI w base g n (fun _ => 0) := by
  rw [zeros_eq, zeros_tabI] at h; exact h
set_option maxHeartbeats 800000 in
def SumPost (a b : List Int) (e : Ending) (w w' : World) : Prop :=
  Below w.heap.size w w' ∧ ((RightL a ∧ RightL b ∧ RightL (sumL a b) ∧ ∃ v, Rd w' v (sumL a b) ∧ e = .returned (.tuple #[v, .int .i64 0])) ∨
    (RightL a ∧ RightL b ∧ ¬ RightL (sumL a b) ∧ e = .returned (.tuple #[.slice none 0 0, .int .i64 4])) ∨
    (¬ (RightL a ∧ RightL b) ∧ e = .returned (.tuple #[.slice none 0 0, .int .i64 1])))
theorem sum_bad (v v2 : Value) (xs ys : List Int) (w : World) (h : Rd w v xs) (h2 : Rd w v2 ys) (hr : ¬ (RightL xs ∧ RightL ys)) : Calls Tryd.prog 20 #[v, v2] w fun e w' => SumPost xs ys e w w' := by
  have HA := Lib.hid (right_any v xs w h)
  have HB := Lib.hid (right_any v2 ys w h2)
  have HX : Hid (SumPost xs ys (.returned (.tuple #[.slice none 0 0, .int .i64 1])) w w) := ⟨Below.refl _ _, .inr (.inr ⟨hr, rfl⟩)⟩
  by_cases ha : RightL xs
  · rw [decide_eq_true ha] at HA
    rw [decide_eq_false (fun hb => hr ⟨ha, hb⟩)] at HB
    clear h h2 hr ha
    go_enter Tryd.func20, Tryd.ntmps20
    go_wp2_with fail
    refine HA.out.mono ?_
    rintro e w1 ⟨rfl, rfl⟩
    go_wp2_with fail
    refine HB.out.mono ?_
    rintro e w1 ⟨rfl, rfl⟩
    go_wp2_with fail
    go_ret2
    exact HX.out
  · rw [decide_eq_false ha] at HA
    clear h h2 hr ha
    go_enter Tryd.func20, Tryd.ntmps20
    go_wp2_with fail
    refine HA.out.mono ?_
    rintro e w1 ⟨rfl, rfl⟩
    go_wp2_with fail
    go_ret2
    exact HX.out
theorem right_nil : RightL [] := ⟨by decide, fun h => absurd h (by decide), fun i hi => absurd hi (by simp)⟩
set_option maxRecDepth 20000 in
theorem sum_empty (v v2 : Value) (xs ys : List Int) (w : World) (h : Rd w v xs) (h2 : Rd w v2 ys) (ha : RightL xs) (hb : RightL ys) (h0 : xs.length = 0 ∨ ys.length = 0) : Calls Tryd.prog 20 #[v, v2] w fun e w' => SumPost xs ys e w w' := by
  have HA := Lib.hid (right_any v xs w h)
  have HB := Lib.hid (right_any v2 ys w h2)
  rw [decide_eq_true ha] at HA
  rw [decide_eq_true hb] at HB
  have hs : sumL xs ys = [] := by unfold sumL; rw [if_pos h0]
  have HX : Hid (SumPost xs ys (.returned (.tuple #[.slice none 0 0, .int .i64 0])) w w) := ⟨Below.refl _ _, .inl ⟨ha, hb, by rw [hs]; exact right_nil, _, by rw [hs]; exact Rd.nil w, rfl⟩⟩
  obtain ⟨a, cap, rfl, hlc, hcm, -⟩ := h.open
  obtain ⟨a2, cap2, rfl, hlc2, hcm2, -⟩ := h2.open
  have f0 : (((xs.length : Nat) : Int) == 0 || ((ys.length : Nat) : Int) == 0) = true := by
    rcases h0 with h | h <;> simp [h]
  clear h h2 ha hb hs
  go_enter Tryd.func20, Tryd.ntmps20
  go_wp2_with fail
  refine HA.out.mono ?_
  rintro e w1 ⟨rfl, rfl⟩
  go_wp2_with fail
  refine HB.out.mono ?_
  rintro e w1 ⟨rfl, rfl⟩
  go_wp2_with fail
  all_goals first
    | (go_ret2; exact HX.out)
    | (exfalso; rcases h0 with h | h <;> omega)
set_option maxRecDepth 20000 in
set_option maxHeartbeats 3200000 in
theorem sum_ok (v v2 : Value) (xs ys : List Int) (w : World) (h : Rd w v xs) (h2 : Rd w v2 ys) (ha : RightL xs) (hb : RightL ys) (h0 : 0 < xs.length) (h02 : 0 < ys.length) : Calls Tryd.prog 20 #[v, v2] w fun e w' => SumPost xs ys e w w' := by
  obtain ⟨i0, hinfo, hz0, hz1, hz2⟩ := info_parts Tryd.info3t
  have HA := Lib.hid (right_any v xs w h)
  have HB := Lib.hid (right_any v2 ys w h2)
  rw [decide_eq_true ha] at HA
  rw [decide_eq_true hb] at HB
  have hs : Hid (sumL xs ys = tabI (xs.length + ys.length - 1) (conv xs ys xs.length)) := by show _ = _; unfold sumL; rw [if_neg (by omega)]
  obtain ⟨a, cap, rfl, hlc, hcm, hop⟩ := h.open
  obtain ⟨a2, cap2, rfl, hlc2, hcm2, hop2⟩ := h2.open
  have HO1 := Lib.hid hop
  have HO2 := Lib.hid hop2
  have hl := ha.1
  have hl2 := hb.1
  have RA := Lib.hid ha
  have RB := Lib.hid hb
  have HCB : Hid (∀ i k, i ≤ 200 → conv xs ys i k ≤ 200 * (1048576 * 1048576)) := fun i k hi => conv_le ha hb hi k
  have HCS : Hid (∀ i k, conv xs ys (i + 1) k = conv xs ys i k + term xs ys k i) := fun i k => rfl
  clear h h2 hop hop2 ha hb
  have e1 : ((xs.length : Int) == 0) = false := by rw [beq_eq_false_iff_ne]; omega
  have e2 : ((ys.length : Int) == 0) = false := by rw [beq_eq_false_iff_ne]; omega
  generalize hn : xs.length + ys.length - 1 = n at *
  have hn1 : (xs.length : Int) + (ys.length : Int) - 1 = (n : Int) := by omega
  have hnb : n ≤ 399 := by omega
  have b2 : i0.bytes * n ≤ 281474976710656 := by rw [hz2]; omega
  have b3 : n ≤ maxLen := by unfold maxLen; omega
  go_enter Tryd.func20, Tryd.ntmps20
  go_wp2_with fail
  refine HA.out.mono ?_
  rintro e w1 ⟨rfl, rfl⟩
  go_wp2_with fail
  refine HB.out.mono ?_
  rintro e w1 ⟨rfl, rfl⟩
  go_wp2_with (refine wpList_make_full _ rfl _ _ 30 rfl w.heap.size 3 i0 (.int .i64 0) 1 Tryd.underlying30 hinfo hz0 hz1 .i64 .i64 _ _ n rfl rfl ?hL ?hC b2 b3 (Nat.le_refl _) ?_)
  case hL => first | rfl | simp [hn1]
  case hC => first | rfl | simp [hn1]
  intro w2 hown hgr
  have HB2 := Lib.hid ((Below.refl w.heap.size w).grown hgr (Nat.le_refl _) (fun k hk => by cases hk))
  have HO := Lib.hid (OI.made hown)
  clear hown hgr b2 b3 HA HB
  generalize hg : w.heap.size = g at *
  have HG := Lib.hid hg
  clear hg
  go_wp2_with fail
  go_loopw [36] (fun iv wr => ∃ i : Nat, i ≤ xs.length ∧ iv = .int .i64 i ∧ Below g w wr ∧ OI wr g g n (fun k => conv xs ys i k)) (fun iv _ => xs.length - (intOf iv).toNat)
  case atStart => exact ⟨0, Nat.zero_le _, rfl, HB2.out, HO.out.congr (fun k _ => rfl)⟩
  case round =>
    obtain ⟨i, hi, rfl, hbel, ho⟩ := hrel
    obtain ⟨wo, rfl⟩ : ∃ wo : World, wo = wr := ⟨_, rfl⟩
    have HBO := Lib.hid hbel
    have HOO := Lib.hid ho
    clear hbel ho
    by_cases hlt : i < xs.length
    · obtain ⟨b, off, rfl, hbl, hc⟩ := HO1.out i hlt
      have hgb : b < g := hbl
      have c := (World.cell?_of_block (HBO.out.block b hgb)).trans (hc i hlt)
      obtain ⟨q1, q2⟩ := RA.out.at hlt
      rw [q1] at c
      clear hc q1
      go_wp2_with fail
      go_loopw [43] (fun jv wr => ∃ j : Nat, j ≤ ys.length ∧ jv = .int .i64 j ∧ Below g w wr ∧ OI wr g g n (fun k => conv xs ys i k + if i ≤ k ∧ k < i + j then nd xs i * nd ys (k - i) else 0)) (fun jv _ => ys.length - (intOf jv).toNat)
      case atStart => exact ⟨0, Nat.zero_le _, rfl, HBO.out, HOO.out.congr (fun k _ => by rw [if_neg (by omega)]; rfl)⟩
      case round =>
        obtain ⟨j, hj, rfl, hbel, ho⟩ := hrel
        by_cases hjl : j < ys.length
        · obtain ⟨b', off', rfl, hbl', hc'⟩ := HO2.out j hjl
          have hgb' : b' < g := hbl'
          have c' := (World.cell?_of_block (hbel.block b' hgb')).trans (hc' j hjl)
          obtain ⟨r1, r2⟩ := RB.out.at hjl
          rw [r1] at c'
          have c0 := ho.get (i + j) (by omega)
          rw [if_neg (by omega), Nat.add_zero] at c0
          have fr := ho.frozen (i + j)
          have hcb := HCB.out i (i + j) (by omega)
          have hpp : nd xs i * nd ys j ≤ 1048576 * 1048576 := Nat.mul_le_mul q2 r2
          have hm : (nd xs i : Int) * (nd ys j : Int) = ((nd xs i * nd ys j : Nat) : Int) := by simp
          have HS := Lib.hid (OI.congr (ho.set (i + j) (conv xs ys i (i + j) + nd xs i * nd ys j)) (f' := fun k => conv xs ys i k + if i ≤ k ∧ k < i + (j + 1) then nd xs i * nd ys (k - i) else 0) (fun k _ => by
            by_cases e : k = i + j
            · subst e; rw [if_pos rfl, if_pos (by omega), show i + j - i = j by omega]
            · rw [if_neg e]
              by_cases e2 : i ≤ k ∧ k < i + j
              · rw [if_pos e2, if_pos (by omega)]
              · rw [if_neg e2, if_neg (by omega)]))
          have HBS := Lib.hid (hbel.setCell (Nat.le_refl _) (p := ⟨g, i + j, none⟩) (.int .i64 ((conv xs ys i (i + j) + nd xs i * nd ys j : Nat) : Int)))
          clear hc' r1 ho hbel
          generalize conv xs ys i (i + j) = P at *
          generalize nd xs i * nd ys j = pr at *
          generalize nd ys j = y at *
          go_wp2_with fail
          go_roundw
          case rel => exact ⟨j + 1, by omega, by go_num, HBS.out, HS.out⟩
          case measure => simp [intOf]; omega
        · obtain rfl : j = ys.length := by omega
          have HS := Lib.hid (OI.congr ho (f' := fun k => conv xs ys (i + 1) k) (fun k _ => by
            rw [HCS.out]
            congr 1
            unfold term
            by_cases e : i ≤ k
            · rw [if_pos e]
              by_cases e2 : k < i + ys.length
              · rw [if_pos ⟨e, e2⟩]
              · rw [if_neg (by omega), nd_out (show ys.length ≤ k - i by omega), Nat.mul_zero]
            · rw [if_neg e, if_neg (by omega)]))
          have HBS := Lib.hid hbel
          clear ho hbel
          go_wp2_with fail
          go_roundw
          case rel => exact ⟨i + 1, by omega, by go_num, HBS.out, HS.out⟩
          case measure => simp [intOf]; omega
    · obtain rfl : i = xs.length := by omega
      have hrd := HOO.out.rd
      rw [← hs.out] at hrd
      have HRR := Lib.hid (right_any _ _ _ hrd)
      have HRD := Lib.hid hrd
      clear hrd HOO
      by_cases hr : RightL (sumL xs ys)
      · rw [decide_eq_true hr] at HRR
        have HX : Hid (SumPost xs ys (.returned (.tuple #[.slice (some ⟨g, 0, none⟩) n n, .int .i64 0])) w wo) := ⟨by rw [HG.out]; exact HBO.out, .inl ⟨RA.out, RB.out, hr, _, HRD.out, rfl⟩⟩
        clear hr
        go_wp2_with fail
        refine HRR.out.mono ?_
        rintro e w3 ⟨rfl, rfl⟩
        go_wp2_with fail
        go_ret2
        exact HX.out
      · rw [decide_eq_false hr] at HRR
        have HX : Hid (SumPost xs ys (.returned (.tuple #[.slice none 0 0, .int .i64 4])) w wo) := ⟨by rw [HG.out]; exact HBO.out, .inr (.inl ⟨RA.out, RB.out, hr, rfl⟩)⟩
        clear hr
        go_wp2_with fail
        refine HRR.out.mono ?_
        rintro e w3 ⟨rfl, rfl⟩
        go_wp2_with fail
        go_ret2
        exact HX.out
set_option maxRecDepth 20000 in
theorem sum_any (v v2 : Value) (xs ys : List Int) (w : World) (h : Rd w v xs) (h2 : Rd w v2 ys) : Calls Tryd.prog 20 #[v, v2] w fun e w' => SumPost xs ys e w w' := by
  by_cases hr : RightL xs ∧ RightL ys
  · by_cases h0 : xs.length = 0 ∨ ys.length = 0
    · exact sum_empty v v2 xs ys w h h2 hr.1 hr.2 h0
    · exact sum_ok v v2 xs ys w h h2 hr.1 hr.2 (by omega) (by omega)
  · exact sum_bad v v2 xs ys w h h2 hr
end Go.Proofs.YthaiopgmncnekaaDoor.Dice
