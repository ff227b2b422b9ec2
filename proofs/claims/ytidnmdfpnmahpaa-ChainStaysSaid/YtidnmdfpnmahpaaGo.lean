/- chain.Go: what it answers. Condition: fewer numbers than 2^44. -/
import Derived.Test.YtidnmdfpnmahpaaSum
set_option linter.unusedSimpArgs false
set_option linter.unusedVariables false
set_option maxRecDepth 20000
namespace Go.Proofs.Ytidnmdfpnmahpaa
open Go.RowKit
theorem Try.info3c : (Try.prog.info? 3).map (fun i => (i.zero, i.size, i.bytes)) = some (some (.int .i64 0), 1, 8) := by kernel_rfl
/-- Which state a number leads to. -/
def pickF : List Int → Int → Nat
  | [], _ => 0
  | x :: r, n => if n < x then 0 else pickF r (n - x) + 1
theorem pickF_lt : ∀ (r : List Int) (n : Int), n < sumL r → pickF r n < r.length ∨ r = []
  | [], _, _ => .inr rfl
  | x :: r, n, h => by
    left
    unfold pickF
    rw [List.length_cons]
    split
    · omega
    · unfold sumL at h
      rcases pickF_lt r (n - x) (by omega) with h2 | h2
      · omega
      · subst h2; simp [sumL] at h; omega
/-- Where one goes, by numbers. -/
def goF (M : List (List Int)) : Nat → List Int → Option (List Int)
  | _, [] => some []
  | f, n :: ns => if n < 0 ∨ sumL (M.getD f []) ≤ n then none else (goF M (pickF (M.getD f []) n) ns).map ((pickF (M.getD f []) n : Int) :: ·)
theorem goF_len (M : List (List Int)) : ∀ (ns : List Int) (f : Nat) (l : List Int), goF M f ns = some l → l.length = ns.length
  | [], f, l, h => by cases h; rfl
  | n :: ns, f, l, h => by
    unfold goF at h
    split at h
    · cases h
    · rw [Option.map_eq_some_iff] at h
      obtain ⟨l', h1, rfl⟩ := h
      rw [List.length_cons, List.length_cons, goF_len M ns _ l' h1]
theorem own_nil {w : World} {base n k : Nat} {e : TypeId} {a : Option Addr} {xs : List Value} (h : w.ownsRow base e 1 (.slice a n k) n xs) : a = none → k = 0 := by
  rintro rfl
  rcases h.2 with ⟨h, _⟩ | ⟨g, cap, cur, h, _⟩
  · injection h
  · cases h
/-- What chain.Go answers. -/
def GoPost (w : World) (r : Option (List Int)) (e : Ending) (w' : World) : Prop :=
  Below w.heap.size w w' ∧ match r with
    | some l => ∃ a c, e = .returned (.tuple #[.slice a l.length c, .int .i64 0]) ∧ Rd w' (.slice a l.length c) l ∧ (a = none → c = 0)
    | none => e = .returned (.tuple #[.slice none 0 0, .int .i64 2])
set_option maxHeartbeats 1600000 in
set_option maxRecDepth 20000 in
theorem go_run (a a2 : Option Addr) (n c m c2 f : Nat) (M : List (List Int)) (ns : List Int) (w : World) (h : RdM w (.slice a n c) M) (h2 : Rd w (.slice a2 m c2) ns) (hg : Good n M) (hf : f < n) (hm : m < 17592186044416) :
    Calls Try.prog 13 #[.slice a n c, .int .i64 f, .slice a2 m c2] w (GoPost w (goF M f ns)) := by
  obtain ⟨hl, hc1, hc2⟩ := h.lenEq
  obtain ⟨hl2, hd1, hd2⟩ := h2.lenEq
  obtain ⟨-, g1, g5, gr⟩ := hg
  obtain ⟨i3, hi3, hz0, hz1, hz2⟩ := info_parts Try.info3c
  have hw0 : wrongN M = 0 := (wrong_good M).2 ⟨rfl, by omega, by omega, by rw [hl]; exact gr⟩
  have HWR : Hid (Calls Try.prog 12 #[.slice a n c] w fun e w' => e = .returned (.int .i64 0) ∧ w = w') := by
    have := wrong_any a n c M w h
    rw [hw0] at this
    exact this
  have HM := Lib.hid h
  have HN := Lib.hid h2
  have HG : Hid (∀ i, i < n → (M.getD i []).length = n ∧ (∀ x ∈ M.getD i [], 0 ≤ x ∧ x ≤ 9) ∧ 0 < sumL (M.getD i [])) := fun i hi => gr _ (getD_mem M i [] (by rw [hl]; exact hi))
  have HGO : Hid (∀ q i, i < m → goF M q (ns.drop i) = if ns.getD i 0 < 0 ∨ sumL (M.getD q []) ≤ ns.getD i 0 then none else (goF M (pickF (M.getD q []) (ns.getD i 0)) (ns.drop (i + 1))).map ((pickF (M.getD q []) (ns.getD i 0) : Int) :: ·)) := fun q i hi => by
    show _ = _
    rw [drop_at ns i 0 (by rw [hl2]; exact hi)]; rfl
  have HGZ : Hid (∀ q, goF M q (ns.drop m) = some []) := fun q => by show _ = _; rw [List.drop_of_length_le (by rw [hl2]; exact Nat.le_refl _)]; rfl
  have f0 : decide ((f : Int) < 0) = false := decide_eq_false (by omega)
  have f1 : decide ((n : Int) ≤ (f : Int)) = false := decide_eq_false (by omega)
  have f1' : decide (n ≤ f) = false := decide_eq_false (by omega)
  clear h h2 hl hl2 gr hw0
  go_enter Try.func13, Try.ntmps13
  go_wp2_with fail
  refine HWR.out.mono ?_
  rintro e w' ⟨rfl, rfl⟩
  go_wp2_with fail
  have H0 : Hid (goF M f ns = (goF M f (ns.drop 0)).map ([] ++ ·)) := by show _ = _; rw [List.drop_zero]; cases goF M f ns <;> rfl
  have HA0 : Hid (Below w.heap.size w w) := Below.refl _ _
  go_loopw [28, 1, 9] (fun iv fv ov wr => ∃ (i q : Nat) (o : List Int), i ≤ m ∧ q < n ∧ iv = .int .i64 i ∧ fv = .int .i64 q ∧ Hid (goF M f ns = (goF M q (ns.drop i)).map (o ++ ·)) ∧ Hid (o.length = i) ∧ Hid (wr.ownsRow w.heap.size 3 1 ov i (o.map (Value.int .i64))) ∧ Hid (Below w.heap.size w wr)) (fun iv _ _ _ => m - (intOf iv).toNat)
  case atStart => exact ⟨0, f, [], Nat.zero_le _, hf, rfl, rfl, H0.out, rfl, World.ownsRow_nil _ _ _ _, HA0.out⟩
  case round =>
    clear HA0 H0
    obtain ⟨i, q, o, hi, hq, rfl, rfl, HG1, HOL, HO, HB⟩ := hrel
    by_cases hil : i < m
    · obtain ⟨bn, on, rfl, hbn, hcn⟩ := (HN.out.below HB.out (Nat.le_refl _)).at (by omega)
      have cn := hcn i hil
      obtain ⟨b, off, a', c', rfl, hb, cr, hr⟩ := (HM.out.below HB.out (Nat.le_refl _)).row hq
      obtain ⟨hrl, hrx, hrs⟩ := HG.out q hq
      have hgo := HGO.out q i hil
      obtain ⟨r, hre⟩ : ∃ r, M.getD q [] = r := ⟨_, rfl⟩
      rw [hre] at cr hr hrl hrx hrs hgo
      rw [hrl] at cr hr
      have HGi := Lib.hid (HG1.out.trans (congrArg _ hgo))
      have HRr := Lib.hid hr
      have HRL := Lib.hid hrl
      have HRX := Lib.hid hrx
      have HSUM := Lib.hid (sum_any a' n c' r wr hr (fun x hx => by have := hrx x hx; omega) (by omega))
      have hsb := (sumL_nn r (fun x hx => by have := hrx x hx; omega)).2
      rw [hrl] at hsb
      obtain ⟨av, kv, rfl⟩ := own_slice HO.out
      have hiI : (i : Int) < (m : Int) := by omega
      have hqI : (q : Int) < (n : Int) := by omega
      have HPL := Lib.hid (pickF_lt r (ns.getD i 0))
      clear hre hcn hgo hr hrx
      generalize hx : ns.getD i 0 = x at *
      clear hx
      obtain ⟨S, hS⟩ : ∃ S, sumL r = S := ⟨_, rfl⟩
      rw [hS] at HGi HSUM hrs hsb HPL
      have HSE := Lib.hid hS
      clear hS
      by_cases hx0 : x < 0
      · have d1 : decide (x < 0) = true := decide_eq_true hx0
        have HNO : Hid (goF M f ns = none) := by show _ = _; rw [HGi.out, if_pos (.inl hx0)]; rfl
        clear hx0
        go_wp2_with fail
        go_ret2
        exact ⟨HB.out, by rw [HNO.out]; rfl⟩
      · have d1 : decide (x < 0) = false := decide_eq_false hx0
        by_cases hxS : S ≤ x
        · have d2 : decide (S ≤ x) = true := decide_eq_true hxS
          have HNO : Hid (goF M f ns = none) := by show _ = _; rw [HGi.out, if_pos (.inr hxS)]; rfl
          clear hx0 hxS
          go_wp2_with fail
          refine HSUM.out.mono ?_
          rintro e w' ⟨rfl, rfl⟩
          go_wp2_with fail
          go_ret2
          exact ⟨HB.out, by rw [HNO.out]; rfl⟩
        · have d2 : decide (S ≤ x) = false := decide_eq_false hxS
          have hx1 : 0 ≤ x := by omega
          have hx2 : x < S := by omega
          have HYES : Hid (goF M f ns = ((goF M (pickF r x) (ns.drop (i + 1))).map ((pickF r x : Int) :: ·)).map (o ++ ·)) := by show _ = _; rw [HGi.out, if_neg (by omega)]
          have HDR : Hid (∀ k, k < n → r.drop k = r.getD k 0 :: r.drop (k + 1)) := fun k hk => drop_at r k 0 (by rw [HRL.out]; exact hk)
          have HP0 : Hid (pickF r x = 0 + pickF (r.drop 0) x) := by show _ = _; rw [List.drop_zero, Nat.zero_add]
          have HS0 : Hid (x < sumL (r.drop 0)) := by show _ < _; rw [List.drop_zero, HSE.out]; exact hx2
          have HXB : Hid (∀ k, k < n → 0 ≤ r.getD k 0 ∧ r.getD k 0 ≤ 9) := fun k hk => HRX.out _ (getD_mem r k 0 (by rw [HRL.out]; exact hk))
          have HEND : Hid (sumL (r.drop n) = 0) := by show _ = _; rw [List.drop_of_length_le (by rw [HRL.out]; exact Nat.le_refl _)]; rfl
          have hnpos : 0 < n := by omega
          have hx45 : x < 5000000000 := by omega
          clear hx0 hxS hx2 hsb
          go_wp2_with fail
          refine HSUM.out.mono ?_
          rintro e w' ⟨rfl, rfl⟩
          go_wp2_with fail
          go_loop [12, 11] (fun kv xv => ∃ (k : Nat) (y : Int), k < n ∧ kv = .int .i64 k ∧ xv = .int .i64 y ∧ 0 ≤ y ∧ y < 5000000000 ∧ Hid (pickF r x = k + pickF (r.drop k) y) ∧ Hid (y < sumL (r.drop k))) (fun kv _ => n - (intOf kv).toNat)
          case atStart => exact ⟨0, x, hnpos, rfl, rfl, hx1, hx45, HP0.out, HS0.out⟩
          case round =>
            clear HP0 HS0
            obtain ⟨k, y, hk, rfl, rfl, hy0, hy5, HP, HS⟩ := hrel
            have hkI : (k : Int) < (n : Int) := by omega
            obtain ⟨b2, off2, rfl, hb2, hcc⟩ := HRr.out.at hnpos
            have cz := hcc k hk
            obtain ⟨hz0', hz9⟩ := HXB.out k hk
            have hdr := HDR.out k hk
            have HPk : Hid (pickF (r.drop k) y = if y < r.getD k 0 then 0 else pickF (r.drop (k + 1)) (y - r.getD k 0) + 1) := by show _ = _; rw [hdr]; rfl
            have HSk : Hid (sumL (r.drop k) = r.getD k 0 + sumL (r.drop (k + 1))) := by show _ = _; rw [hdr]; rfl
            clear hcc hdr
            generalize r.getD k 0 = z at *
            by_cases hyz : z ≤ y
            · have d3 : decide (z ≤ y) = true := decide_eq_true hyz
              have HPn : Hid (pickF r x = (k + 1) + pickF (r.drop (k + 1)) (y - z)) := by show _ = _; rw [HP.out, HPk.out, if_neg (by omega)]; omega
              have HSn : Hid (y - z < sumL (r.drop (k + 1))) := by have := HS.out; rw [HSk.out] at this; show _ < _; omega
              have hk2 : k + 1 < n := by
                rcases Nat.lt_or_ge (k + 1) n with h | h
                · exact h
                · obtain rfl : k + 1 = n := by omega
                  have := HSn.out
                  rw [HEND.out] at this
                  omega
              go_wp2_with fail
              go_round
              case rel => exact ⟨k + 1, y - z, hk2, by go_num, rfl, by omega, by omega, HPn.out, HSn.out⟩
              case measure => simp [intOf]; omega
            · have d3 : decide (z ≤ y) = false := decide_eq_false hyz
              have HPK : Hid (pickF r x = k) := by show _ = _; rw [HP.out, HPk.out, if_pos (by omega)]; omega
              have hbs := HB.out.size
              have hi44 : i + 1 ≤ 17592186044416 := by omega
              go_wp2_with (at_builtin; go_must (refine push rfl _ _ 24 rfl w.heap.size 3 i3 (.int .i64 0) 8 Try.underlying24 hi3 hz0 hz1 hz2 rfl _ i (o.map (Value.int .i64)) rfl HO.out (.int .i64 k) wr.heap.size rfl rfl rfl (by decide) (by omega) hbs ?_))
              intro v5 w5 ho5 hg5
              have HB5 : Hid (Below w.heap.size w w5) := grown_below hg5 HO.out HB.out (Nat.le_refl _) hbs
              have HO5 : Hid (w5.ownsRow w.heap.size 3 1 v5 (i + 1) ((o ++ [(k : Int)]).map (Value.int .i64))) := by rw [List.map_append]; exact ho5
              have HGn : Hid (goF M f ns = (goF M k (ns.drop (i + 1))).map ((o ++ [(k : Int)]) ++ ·)) := by
                show _ = _
                rw [HYES.out, HPK.out]
                cases goF M k (ns.drop (i + 1)) with
                | none => rfl
                | some l => simp
              have HLn : Hid ((o ++ [(k : Int)]).length = i + 1) := by show _ = _; rw [List.length_append, HOL.out]; rfl
              clear ho5 hg5
              go_wp2_with fail
              exact ⟨⟨i + 1, k, _, by omega, hk, by go_num, rfl, HGn.out, HLn.out, HO5.out, HB5.out⟩, by simp [intOf]; omega⟩
    · obtain rfl : i = m := by omega
      have HYE : Hid (goF M f ns = some o) := by show _ = _; rw [HG1.out, HGZ.out]; simp
      obtain ⟨av, kv, rfl⟩ := own_slice HO.out
      have HRd := Lib.hid (Rd.own HO.out)
      go_wp2_with fail
      go_ret2
      refine ⟨HB.out, ?_⟩
      rw [HYE.out]
      exact ⟨av, kv, by rw [HOL.out]; rfl, by rw [HOL.out]; exact HRd.out, own_nil HO.out⟩
theorem go_wrong (a a2 : Option Addr) (n c m c2 : Nat) (f : Int) (M : List (List Int)) (w : World) (h : RdM w (.slice a n c) M) (hw : wrongN M ≠ 0) :
    Calls Try.prog 13 #[.slice a n c, .int .i64 f, .slice a2 m c2] w fun e w' => ∃ er : Nat, er ≠ 0 ∧ e = .returned (.tuple #[.slice none 0 0, .int .i64 er]) ∧ Below w.heap.size w w' := by
  have HWR := Lib.hid (wrong_any a n c M w h)
  generalize wrongN M = er at *
  have he : ((er : Int) != 0) = true := by rw [bne_iff_ne]; omega
  have HE := Lib.hid hw
  clear h hw
  go_enter Try.func13, Try.ntmps13
  go_wp2_with fail
  refine HWR.out.mono ?_
  rintro e w' ⟨rfl, rfl⟩
  go_wp2_with fail
  go_ret2
  exact ⟨er, HE.out, rfl, Below.refl _ _⟩
theorem go_none (a a2 : Option Addr) (n c m c2 : Nat) (f : Int) (M : List (List Int)) (w : World) (h : RdM w (.slice a n c) M) (hw : wrongN M = 0) (hf : f < 0 ∨ (n : Int) ≤ f) :
    Calls Try.prog 13 #[.slice a n c, .int .i64 f, .slice a2 m c2] w fun e w' => ∃ er : Nat, er ≠ 0 ∧ e = .returned (.tuple #[.slice none 0 0, .int .i64 er]) ∧ Below w.heap.size w w' := by
  have HWR := Lib.hid (wrong_any a n c M w h)
  rw [hw] at HWR
  have hx : decide (f < 0) = true ∨ (decide (f < 0) = false ∧ decide ((n : Int) ≤ f) = true) := by
    simp only [decide_eq_true_eq, decide_eq_false_iff_not]; omega
  clear h hw hf
  rcases hx with f1 | ⟨f1, f2⟩
  all_goals
    go_enter Try.func13, Try.ntmps13
    go_wp2_with fail
    refine HWR.out.mono ?_
    rintro e w' ⟨rfl, rfl⟩
    go_wp2_with fail
    go_ret2
    exact ⟨3, by decide, rfl, Below.refl _ _⟩
end Go.Proofs.Ytidnmdfpnmahpaa
