/- fen.wrong, build, Pick, Sums: what they answer. No condition. -/
import Derived.Test.YtkljkogcahmaaaaOps
set_option linter.unusedSimpArgs false
set_option linter.unusedVariables false
namespace Go.Proofs.Ytkljkogcahmaaaa
open Go.RowKit
def OkL (zs : List Int) : Prop := zs.length ≤ 400 ∧ ∀ i, i < zs.length → 0 ≤ zs.getD i 0 ∧ zs.getD i 0 ≤ 1073741824
instance (zs : List Int) : Decidable (OkL zs) := by unfold OkL; exact inferInstance
theorem OkL.nd {zs : List Int} (h : OkL zs) {i : Nat} (hi : i < zs.length) : zs.getD i 0 = (nd zs i : Int) := by
  have := h.2 i hi
  unfold Ytkljkogcahmaaaa.nd; omega
theorem OkL.le {zs : List Int} (h : OkL zs) (i : Nat) : Ytkljkogcahmaaaa.nd zs i ≤ 1073741824 := by
  by_cases hi : i < zs.length
  · have := h.2 i hi; have := h.nd hi; omega
  · rw [nd_out (by omega)]; omega
set_option maxHeartbeats 800000 in
theorem wrong_any (v : Value) (zs : List Int) (w : World) (h : Rd w v zs) : Calls Try.prog 13 #[v] w fun e w' => e = .returned (.bool (!decide (OkL zs))) ∧ w' = w := by
  obtain ⟨a, cap, rfl, hlc, hcm, hop⟩ := h.open
  clear h
  have HO := Lib.hid hop; clear hop
  by_cases h1 : 400 < zs.length
  · have HD : Hid (decide (OkL zs) = false) := decide_eq_false (fun h => by have := h.1; omega)
    have e1 : decide (400 < (zs.length : Int)) = true := decide_eq_true (by omega)
    have e2 : decide (400 < zs.length) = true := decide_eq_true h1
    go_enter Try.func13, Try.ntmps13
    go_wp2_with fail
    go_ret
    exact ⟨by simp [HD.out], rfl⟩
  · have e1 : decide (400 < (zs.length : Int)) = false := decide_eq_false (by omega)
    have e2 : decide (400 < zs.length) = false := decide_eq_false h1
    go_enter Try.func13, Try.ntmps13
    go_wp2_with fail
    go_loop [10, 4] (fun iv xv => ∃ i : Nat, i ≤ zs.length ∧ iv = .int .i64 i ∧ Hid (∀ j, j < i → 0 ≤ zs.getD j 0 ∧ zs.getD j 0 ≤ 1073741824)) (fun iv _ => zs.length - (intOf iv).toNat)
    case atStart => exact ⟨0, Nat.zero_le _, rfl, fun j hj => by omega⟩
    case round =>
      obtain ⟨i, hi, rfl, hr⟩ := hrel
      by_cases hlt : i < zs.length
      · obtain ⟨b, off, rfl, hb, hc⟩ := HO.out i hlt
        have c := hc i hlt
        clear hc
        by_cases hin : 0 ≤ zs.getD i 0 ∧ zs.getD i 0 ≤ 1073741824
        · have HR : Hid (∀ j, j < i + 1 → 0 ≤ zs.getD j 0 ∧ zs.getD j 0 ≤ 1073741824) := fun j hj => by
            rcases Nat.lt_or_ge j i with h | h
            · exact hr.out j h
            · rw [show j = i by omega]; exact hin
          obtain ⟨n1, n2⟩ := hin
          have f1 : decide (zs.getD i 0 < 0) = false := decide_eq_false (by omega)
          have f2 : decide (1073741824 < zs.getD i 0) = false := decide_eq_false (by omega)
          generalize zs.getD i 0 = x at *
          go_wp2_with fail
          go_round
          case rel => exact ⟨i + 1, by omega, by go_num, HR.out⟩
          case measure => simp [intOf]; omega
        · have HD : Hid (decide (OkL zs) = false) := decide_eq_false (fun h => hin (h.2 i hlt))
          have hor : zs.getD i 0 < 0 ∨ 1073741824 < zs.getD i 0 := by omega
          generalize zs.getD i 0 = x at *
          rcases hor with h | h
          · have f1 : decide (x < 0) = true := decide_eq_true h
            go_wp2_with fail
            go_ret
            exact ⟨by simp [HD.out], rfl⟩
          · have f1 : decide (x < 0) = false := decide_eq_false (by omega)
            have f2 : decide (1073741824 < x) = true := decide_eq_true h
            go_wp2_with fail
            go_ret
            exact ⟨by simp [HD.out], rfl⟩
      · obtain rfl : i = zs.length := by omega
        have HD : Hid (decide (OkL zs) = true) := decide_eq_true ⟨by omega, hr.out⟩
        go_wp2_with fail
        go_ret
        exact ⟨by simp [HD.out], rfl⟩
theorem tot_nil : ∀ k, tot (fun _ => 0) k = 0
  | 0 => rfl
  | k + 1 => by rw [tot, tot_nil k]
theorem tr_congr {f g : Nat → Nat} {j : Nat} (h : ∀ i, i < j → f i = g i) : tr f j = tr g j := by
  unfold tr
  rw [tot_congr h, tot_congr (fun i hi => h i (by omega))]
set_option maxHeartbeats 800000 in
theorem build_ok (v : Value) (zs : List Int) (w : World) (h : Rd w v zs) (hk : OkL zs) : Calls Try.prog 14 #[v] w fun e w' =>
    ∃ g, e = .returned (.slice (some ⟨g, 0, none⟩) (zs.length + 1) (zs.length + 1)) ∧ Below w.heap.size w w' ∧ OI w' w.heap.size g (zs.length + 1) (tr (nd zs)) := by
  obtain ⟨i0, hinfo, hz0, hz1, hz2⟩ := info_parts Try.info3t
  obtain ⟨a, cap, rfl, hlc, hcm, hop⟩ := h.open
  have HO1 := Lib.hid hop
  have HK := Lib.hid hk
  have hn := hk.1
  clear h hop hk
  have b2 : i0.bytes * (zs.length + 1) ≤ 281474976710656 := by rw [hz2]; omega
  have b3 : zs.length + 1 ≤ maxLen := by unfold maxLen; omega
  go_enter Try.func14, Try.ntmps14
  go_wp2_with (refine wpList_make_full _ rfl _ _ 37 rfl w.heap.size 3 i0 (.int .i64 0) 1 Try.underlying37 hinfo hz0 hz1 .i64 .i64 _ _ (zs.length + 1) rfl rfl ?hL ?hC b2 b3 (Nat.le_refl _) ?_)
  case hL => simp
  case hC => simp
  intro w2 hown hgr
  have HB := Lib.hid ((Below.refl w.heap.size w).grown hgr (Nat.le_refl _) (fun k hk => by cases hk))
  have HO := Lib.hid (OI.made hown)
  clear hown hgr b2 b3
  generalize hg : w.heap.size = g at *
  have HG := Lib.hid hg
  clear hg
  go_wp2_with fail
  go_loopw [12] (fun iv wr => ∃ i : Nat, i ≤ zs.length ∧ iv = .int .i64 i ∧ Below g w wr ∧ OI wr g g (zs.length + 1) (tr (fun k => if k < i then nd zs k else 0))) (fun iv _ => zs.length - (intOf iv).toNat)
  case atStart => exact ⟨0, Nat.zero_le _, rfl, HB.out, HO.out.congr (fun k _ => by
    rw [tr_congr (g := fun _ => 0) (fun i _ => by rw [if_neg (by omega)])]
    simp [tr, tot_nil])⟩
  case round =>
    obtain ⟨i, hi, rfl, hbel, ho⟩ := hrel
    by_cases hlt : i < zs.length
    · obtain ⟨b, off, rfl, hbl, hc⟩ := HO1.out i hlt
      have hbl' : b < g := hbl
      have c := (World.cell?_of_block (hbel.block b hbl')).trans (hc i hlt)
      rw [HK.out.nd hlt] at c
      have HA : Hid (Calls Try.prog 17 #[.slice (some ⟨g, 0, none⟩) (zs.length + 1) (zs.length + 1), .int .i64 i, .int .i64 (nd zs i : Nat)] wr fun e w' => e = .returned (.tuple #[]) ∧ Below g wr w' ∧ OI w' g g (zs.length + 1) (tr (fun k => if k < i + 1 then nd zs k else 0)) ∧ Keeps g wr w') := by
        have := add_ok (fun k => if k < i then nd zs k else 0) (fun k => if k < i + 1 then nd zs k else 0) i zs.length hlt hn (fun j hj => by
            show (if _ then _ else _) = (if _ then _ else _)
            by_cases e : j < i
            · rw [if_pos e, if_pos (by omega)]
            · rw [if_neg e, if_neg (by omega)])
          (fun j => by show (if _ then _ else _) ≤ _; split; exact HK.out.le j; omega) (fun j => by show (if _ then _ else _) ≤ _; split; exact HK.out.le j; omega) g g wr ho
        rwa [if_pos (by omega), if_neg (by omega), Int.natCast_zero, Int.sub_zero] at this
      have HBE := Lib.hid hbel
      clear hc ho hbel
      generalize nd zs i = x at *
      go_wp2_with fail
      refine HA.out.mono ?_
      rintro e w3 ⟨rfl, hb3, ho3, -⟩
      have HB3 := Lib.hid (HBE.out.trans hb3)
      have HO3 := Lib.hid ho3
      clear hb3 ho3
      go_wp2_with fail
      go_roundw
      case rel => exact ⟨i + 1, by omega, by go_num, HB3.out, HO3.out⟩
      case measure => simp [intOf]; omega
    · obtain rfl : i = zs.length := by omega
      have HX : Hid (Below w.heap.size w wr ∧ OI wr w.heap.size g (zs.length + 1) (tr (nd zs))) := by
        rw [HG.out]
        refine ⟨hbel, ho.congr fun k hk => tr_congr fun i hi => by rw [if_pos (by omega)]⟩
      clear hbel ho
      go_wp2_with fail
      go_ret
      exact ⟨g, rfl, HX.out⟩
theorem at_exists (f : Nat → Nat) (n : Nat) : ∀ N, n < tot f N → ∃ k, k < N ∧ AtP f n k
  | 0, h => by simp [tot] at h
  | N + 1, h => by
    by_cases e : n < tot f N
    · obtain ⟨k, h1, h2⟩ := at_exists f n N e
      exact ⟨k, by omega, h2⟩
    · exact ⟨N, by omega, by omega, h⟩
theorem pick_bad (v : Value) (zs : List Int) (n : Int) (w : World) (h : Rd w v zs) (hk : ¬ OkL zs) : Calls Try.prog 9 #[v, .int .i64 n] w fun e w' => e = .returned (.tuple #[.int .i64 0, .int .i64 2]) ∧ w' = w := by
  have HW := Lib.hid (wrong_any v zs w h)
  rw [decide_eq_false hk] at HW
  clear h hk
  go_enter Try.func9, Try.ntmps9
  go_wp2_with fail
  refine HW.out.mono ?_
  rintro e w1 ⟨rfl, rfl⟩
  go_wp2_with fail
  go_ret2
  exact ⟨rfl, rfl⟩
theorem pick_none (v : Value) (zs : List Int) (n : Int) (w : World) (h : Rd w v zs) (hk : OkL zs) (hn : n < 0 ∨ (tot (nd zs) zs.length : Int) ≤ n) : Calls Try.prog 9 #[v, .int .i64 n] w fun e w' => e = .returned (.tuple #[.int .i64 0, .int .i64 3]) ∧ Below w.heap.size w w' := by
  have HW := Lib.hid (wrong_any v zs w h)
  rw [decide_eq_true hk] at HW
  have HBU := Lib.hid (build_ok v zs w h hk)
  have HSU := Lib.hid (fun base g w ho => sum_ok (nd zs) zs.length zs.length (Nat.le_refl _) hk.1 hk.le base g w ho)
  obtain ⟨a, cap, rfl, hlc, hcm, -⟩ := h.open
  clear h hk
  by_cases h0 : n < 0
  · have c1 : decide (n < 0) = true := decide_eq_true h0
    clear hn
    go_enter Try.func9, Try.ntmps9
    go_wp2_with fail
    refine HW.out.mono ?_
    rintro e w1 ⟨rfl, rfl⟩
    go_wp2_with fail
    refine HBU.out.mono ?_
    rintro e w1 ⟨g, rfl, hb, ho⟩
    have HB := Lib.hid hb
    clear hb ho
    go_wp2_with fail
    go_ret2
    exact ⟨rfl, HB.out⟩
  · have c1 : decide (n < 0) = false := decide_eq_false h0
    have c2 : decide ((tot (nd zs) zs.length : Int) ≤ n) = true := decide_eq_true (by omega)
    generalize tot (nd zs) zs.length = S at *
    clear hn
    go_enter Try.func9, Try.ntmps9
    go_wp2_with fail
    refine HW.out.mono ?_
    rintro e w1 ⟨rfl, rfl⟩
    go_wp2_with fail
    refine HBU.out.mono ?_
    rintro e w1 ⟨g, rfl, hb, ho⟩
    have HB := Lib.hid hb
    have HO := Lib.hid ho
    clear hb ho
    go_wp2_with fail
    refine (HSU.out _ _ _ HO.out).mono ?_
    rintro e w2 ⟨rfl, rfl⟩
    go_wp2_with fail
    go_ret2
    exact ⟨rfl, HB.out⟩
theorem pick_at (v : Value) (zs : List Int) (n k : Nat) (w : World) (h : Rd w v zs) (hk : OkL zs) (hkl : k < zs.length) (ha : AtP (nd zs) n k) : Calls Try.prog 9 #[v, .int .i64 n] w fun e w' => e = .returned (.tuple #[.int .i64 k, .int .i64 0]) ∧ Below w.heap.size w w' := by
  have hlt : n < tot (nd zs) zs.length := Nat.lt_of_lt_of_le ha.2 (tot_mono (by omega))
  have HW := Lib.hid (wrong_any v zs w h)
  rw [decide_eq_true hk] at HW
  have HBU := Lib.hid (build_ok v zs w h hk)
  have HSU := Lib.hid (fun base g w ho => sum_ok (nd zs) zs.length zs.length (Nat.le_refl _) hk.1 hk.le base g w ho)
  have HFI := Lib.hid (fun base g w ho => find_ok (nd zs) n zs.length hlt hk.1 hk.le base g w ho)
  have HU : Hid (∀ l, AtP (nd zs) n l → l = k) := fun l h => h.uniq ha
  obtain ⟨a, cap, rfl, hlc, hcm, -⟩ := h.open
  have c1 : decide ((n : Int) < 0) = false := decide_eq_false (by omega)
  have c2 : decide (tot (nd zs) zs.length ≤ n) = false := decide_eq_false (by omega)
  clear h hk ha hlt
  generalize tot (nd zs) zs.length = S at *
  go_enter Try.func9, Try.ntmps9
  go_wp2_with fail
  refine HW.out.mono ?_
  rintro e w1 ⟨rfl, rfl⟩
  go_wp2_with fail
  refine HBU.out.mono ?_
  rintro e w1 ⟨g, rfl, hb, ho⟩
  have HB := Lib.hid hb
  have HO := Lib.hid ho
  clear hb ho
  go_wp2_with fail
  refine (HSU.out _ _ _ HO.out).mono ?_
  rintro e w2 ⟨rfl, rfl⟩
  go_wp2_with fail
  refine (HFI.out _ _ _ HO.out).mono ?_
  rintro e w3 ⟨l, rfl, hl1, hl2, rfl⟩
  obtain rfl := HU.out l hl2
  clear hl1 hl2
  go_wp2_with fail
  go_ret2
  exact ⟨rfl, HB.out⟩
def sumsL (zs : List Int) : List Int := tabI (zs.length + 1) (tot (nd zs))
theorem sums_bad (v : Value) (zs : List Int) (w : World) (h : Rd w v zs) (hk : ¬ OkL zs) : Calls Try.prog 8 #[v] w fun e w' => e = .returned (.tuple #[.slice none 0 0, .int .i64 2]) ∧ w' = w := by
  have HW := Lib.hid (wrong_any v zs w h)
  rw [decide_eq_false hk] at HW
  clear h hk
  go_enter Try.func8, Try.ntmps8
  go_wp2_with fail
  refine HW.out.mono ?_
  rintro e w1 ⟨rfl, rfl⟩
  go_wp2_with fail
  go_ret2
  exact ⟨rfl, rfl⟩
set_option maxHeartbeats 800000 in
theorem sums_ok (v : Value) (zs : List Int) (w : World) (h : Rd w v zs) (hk : OkL zs) : Calls Try.prog 8 #[v] w fun e w' => Below w.heap.size w w' ∧ ∃ u, e = .returned (.tuple #[u, .int .i64 0]) ∧ Rd w' u (sumsL zs) := by
  obtain ⟨i0, hinfo, hz0, hz1, hz2⟩ := info_parts Try.info3t
  have HW := Lib.hid (wrong_any v zs w h)
  rw [decide_eq_true hk] at HW
  have HBU := Lib.hid (build_ok v zs w h hk)
  have HSU := Lib.hid (fun k hkk base g w ho => sum_ok (nd zs) k zs.length hkk hk.1 hk.le base g w ho)
  obtain ⟨a, cap, rfl, hlc, hcm, -⟩ := h.open
  have hn := hk.1
  clear h hk
  go_enter Try.func8, Try.ntmps8
  go_wp2_with fail
  refine HW.out.mono ?_
  rintro e w1 ⟨rfl, rfl⟩
  go_wp2_with fail
  refine HBU.out.mono ?_
  rintro e w2 ⟨g, rfl, hb, ho⟩
  have HB := Lib.hid hb
  have HO := Lib.hid ho
  clear hb ho
  go_wp2_with fail
  have HS2 := Lib.hid HB.out.size
  go_loopw [14, 5] (fun iv ov wr => ∃ i : Nat, i ≤ zs.length + 1 ∧ iv = .int .i64 i ∧ wr.ownsRow w2.heap.size 3 1 ov i ((tabI i (tot (nd zs))).map (Value.int .i64)) ∧ Below w2.heap.size w2 wr) (fun iv _ _ => zs.length + 1 - (intOf iv).toNat)
  case atStart => exact ⟨0, Nat.zero_le _, rfl, ⟨rfl, .inl ⟨rfl, rfl⟩⟩, Below.refl _ _⟩
  case round =>
    obtain ⟨i, hi, rfl, hown, hbel⟩ := hrel
    have hbs := hbel.size
    by_cases hlt : i < zs.length + 1
    · have c := Lib.hid (HSU.out i (by omega) _ g wr (HO.out.below hbel (Nat.le_refl _)))
      have HT : Hid (tabI (i + 1) (tot (nd zs)) = tabI i (tot (nd zs)) ++ [(tot (nd zs) i : Int)]) := by show _ = _; simp [tabI, List.range_succ]
      generalize tot (nd zs) i = S at *
      go_wp2_with fail
      refine c.out.mono ?_
      rintro e w3 ⟨rfl, rfl⟩
      go_wp2_with (at_builtin; go_must (refine push rfl _ _ 22 rfl w2.heap.size 3 i0 (.int .i64 0) 8 Try.underlying22 hinfo hz0 hz1 hz2 rfl _ i ((tabI i (tot (nd zs))).map (Value.int .i64)) rfl hown (.int .i64 S) _ rfl rfl rfl (by decide) ?hk hbs ?_))
      case hk => omega
      intro v' w' hown2 hgr
      have hb2 := grown_below hgr hown hbel (Nat.le_refl _) hbs
      clear hgr hown hbel
      go_wp2_with fail
      go_roundw
      case rel => exact ⟨i + 1, by omega, by go_num, by rw [HT.out]; simpa using hown2, hb2⟩
      case measure => simp [intOf]; omega
    · obtain rfl : i = zs.length + 1 := by omega
      have HX := Lib.hid (And.intro (HB.out.trans (hbel.mono HS2.out)) (Rd.own hown))
      clear hbel hown
      go_wp2_with fail
      go_ret2
      exact ⟨HX.out.1, _, rfl, HX.out.2⟩
end Go.Proofs.Ytkljkogcahmaaaa
