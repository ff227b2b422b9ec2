/- The walk of TapeEven. No condition. -/
import Derived.Test.YtjcdkajcbefgcaaAl
import Derived.Test.YtjcdkajcbefgcaaLaws
set_option linter.unusedSimpArgs false
set_option linter.unusedVariables false
namespace Go.Proofs.Ytjcdkajcbefgcaa.tapeEven
open Go.RowKit Go.Proofs.Ytjcdkajcbefgcaa
theorem one_le (b : Bool) : one b ≤ 1 := by cases b <;> decide
/-- The table of counts. -/
def cnt (q : Nat → Option (Nat × Nat)) (d x : Nat) : Nat := tot (fun y => one (decide ((q y).map Prod.fst = some d))) x
def tabI (n : Nat) (f : Nat → Nat) : List Int := (List.range n).map fun d => (f d : Int)
theorem tabI_len (n : Nat) (f : Nat → Nat) : (tabI n f).length = n := by simp [tabI]
theorem tabI_get (n : Nat) (f : Nat → Nat) (d : Nat) (h : d < n) : (tabI n f).getD d 0 = f d := by
  simp [tabI, List.getD_eq_getElem?_getD, List.getElem?_map, List.getElem?_range, h]
theorem zeros_tabI (n : Nat) : List.replicate n (0 : Int) = tabI n (fun _ => 0) := by
  apply List.ext_getElem (by simp [tabI])
  intro i h1 h2; simp [tabI]
theorem tabI_congr {n : Nat} {f g : Nat → Nat} (h : ∀ d, d < n → f d = g d) : tabI n f = tabI n g := by
  unfold tabI
  apply List.map_congr_left
  intro d hd; rw [h d (List.mem_range.1 hd)]
theorem tabI_set (n : Nat) (f : Nat → Nat) (j : Nat) (x : Nat) : (tabI n f).set j (x : Int) = tabI n (fun d => if d = j then x else f d) := by
  apply List.ext_getElem (by simp [tabI])
  intro i h1 h2
  simp only [tabI, List.getElem_set, List.getElem_map, List.getElem_range]
  by_cases h : j = i
  · subst h; simp
  · rw [if_neg h, if_neg (fun e => h e.symm)]
theorem below_at (v : Value) (z : List Bool) (n : Nat) (h1 : 1 ≤ n) (h2 : n ≤ 1099511627776) (w : World) (h : RdB w v z) :
    Calls Try.prog 8 #[v, .int .i64 n] w fun e w' => e = .returned (bv (belZ n z)) ∧ w = w' := by
  unfold belZ
  rw [if_pos (by omega), Int.toNat_natCast]
  exact below_ok v z n h1 h2 w h
set_option maxHeartbeats 1600000 in
theorem walk_main (n : Nat) (h1 : 1 ≤ n) (h2 : n ≤ 30) (w : World) :
    Calls Try.prog 3 #[.int .i64 n] w fun e w' => e = .returned (.bool true) ∧ Below w.heap.size w w' := by
  obtain ⟨i0, hinfo, hz0, hz1, hz2⟩ := info_parts Try.info3t
  obtain ⟨l1, l2, l3, l4, l5, l6⟩ := even_law n h1 h2
  have HBits := Lib.hid (fun x w (hx : x ≤ 9223372036854775807) => bits_tp x (2 * wid n) (by omega) hx w)
  have HBel := Lib.hid (fun v z w h => below_at v z n h1 (by omega) w h)
  obtain ⟨q, hq⟩ : ∃ q : Nat → Option (Nat × Nat), q = fun x => belZ n (tp (2 * wid n) x) := ⟨_, rfl⟩
  have hqx : Hid (∀ x, belZ n (tp (2 * wid n) x) = q x) := fun x => by rw [hq]
  have L4 : Hid (∀ x, x < 2 ^ (2 * wid n) → ∀ r, q x = some r → r.1 < n ∧ r.2 ≤ 2 * wid n) := fun x hx r hr => by rw [hq] at hr; exact l4 x hx r hr
  have L5 : Hid (∀ d, d < n → cnt q d (2 ^ (2 * wid n)) = 2 ^ wid n + (2 ^ wid n - n)) := fun d hd => by rw [hq]; exact l5 d hd
  obtain ⟨fE, hE⟩ : ∃ f, f = tot (fun x => one (decide ((q x).map Prod.fst = none))) := ⟨_, rfl⟩
  have L6 : Hid (fE (2 ^ (2 * wid n)) = (2 ^ wid n - n) * (2 ^ wid n - n)) := by show _ = _; rw [hE, hq]; exact l6
  have E0 : Hid (fE 0 = 0) := by show _ = _; rw [hE]; rfl
  have ES : Hid (∀ x, fE (x + 1) = fE x + one (decide ((q x).map Prod.fst = none))) := fun x => by rw [hE]; rfl
  have EB : Hid (∀ x, fE x ≤ x) := fun x => by rw [hE]; have := tot_le (k := x) (c := 1) (fun i _ => one_le (decide ((q i).map Prod.fst = none))); omega
  have CB : Hid (∀ d x, cnt q d x ≤ x) := fun d x => by have := tot_le (k := x) (c := 1) (fun i _ => one_le (decide ((q i).map Prod.fst = some d))); unfold cnt; omega
  have CS : Hid (∀ d x, cnt q d (x + 1) = cnt q d x + one (decide ((q x).map Prod.fst = some d))) := fun d x => rfl
  have C0 : Hid (∀ d, cnt q d 0 = 0) := fun d => rfl
  clear hq hE l4 l5 l6
  have L3 := Lib.hid l3
  clear l3
  generalize wid n = k at *
  have e2 : (2 : Int) * (k : Int) = ((2 * k : Nat) : Int) := by omega
  have hI2 : 2 * k ≤ 10 := by omega
  generalize hII : 2 * k = I2 at *
  clear hII
  have hk4 : (2 : Int) ^ I2 = ((2 ^ I2 : Nat) : Int) := by simp
  have hk2 : (2 : Int) ^ k = ((2 ^ k : Nat) : Int) := by simp
  have hb4 : 2 ^ I2 ≤ 2 ^ 10 := Nat.pow_le_pow_right (by decide) (by omega)
  have hb2 : 2 ^ k ≤ 2 ^ 5 := Nat.pow_le_pow_right (by decide) l1
  have hpw : Hid (∀ i, i ≤ k → 2 ^ i ≤ 2 ^ k ∧ (2 : Int) ^ i = ((2 ^ i : Nat) : Int)) := fun i hi => ⟨Nat.pow_le_pow_right (by decide) hi, by simp⟩
  have c1 : decide ((n : Int) < 1) = false := by simp; omega
  have c2 : decide (30 < (n : Int)) = false := by simp; omega
  generalize hK : 2 ^ k = K at *
  generalize 2 ^ I2 = M at *
  have hKI : Hid ((2 : Int) ^ k = (K : Int)) := hk2
  clear hk2
  go_enter Try.func3, Try.ntmps3
  go_wp2_with fail
  refine (alive_any _).mono ?_
  rintro e w1 ⟨rfl, hb1⟩
  have HB := Lib.hid hb1
  clear hb1
  go_wp2_with fail
  go_loop [3] (fun iv => ∃ i : Nat, i ≤ k ∧ iv = .int .i64 i) (fun iv => k - (intOf iv).toNat)
  case atStart => exact ⟨0, Nat.zero_le _, rfl⟩
  case round =>
    obtain ⟨i, hi, rfl⟩ := hrel
    by_cases hik : i < k
    · have a1 := L3.out i hik
      obtain ⟨a2, a3⟩ := hpw.out i hi
      generalize 2 ^ i = y at *
      go_wp2_with fail
      go_round
      case rel => exact ⟨i + 1, by omega, by go_num⟩
      case measure => simp [intOf]; omega
    · obtain rfl : i = k := by omega
      have a1 := hKI.out
      have a2 : decide ((K : Int) < (n : Int)) = false := by simp; omega
      have hn30 : n ≤ maxLen := by unfold maxLen; omega
      have hs1 := HB.out.size
      have b2 : i0.bytes * n ≤ 281474976710656 := by rw [hz2]; omega
      go_wp2_with (refine wpList_make_full _ rfl _ _ 23 rfl w.heap.size 3 i0 (.int .i64 0) 1 Try.underlying23 hinfo hz0 hz1 .i64 .i64 _ _ n rfl rfl rfl rfl b2 hn30 hs1 ?_)
      intro w2 hown hgr
      have HB2 := Lib.hid (HB.out.grown hgr hs1 (fun k hk => by cases hk))
      rw [zeros_eq, zeros_tabI] at hown
      have hown0 : w2.ownsRow w.heap.size 3 1 (.slice (some ⟨w1.heap.size, 0, none⟩) n n) n ((tabI n (fun d => cnt q d 0)).map (Value.int .i64)) := hown
      have HO := Lib.hid hown0
      clear hown hown0 hgr hs1 b2 HB
      generalize w1.heap.size = g at *
      go_wp2_with fail
      go_loopw [5, 31] (fun ev xv wr => ∃ x : Nat, x ≤ M ∧ xv = .int .i64 x ∧ ev = .int .i64 (fE x : Nat) ∧ Below w.heap.size w wr ∧
        wr.ownsRow w.heap.size 3 1 (.slice (some ⟨g, 0, none⟩) n n) n ((tabI n (fun d => cnt q d x)).map (Value.int .i64))) (fun _ xv _ => M - (intOf xv).toNat)
      case atStart => exact ⟨0, Nat.zero_le _, rfl, by rw [E0.out]; rfl, HB2.out, HO.out⟩
      case round =>
        clear HB2 HO
        obtain ⟨x, hx, rfl, rfl, hbel, hown⟩ := hrel
        have eb := EB.out x
        have HOWN := Lib.hid hown
        clear hown
        by_cases hlt : x < M
        · have BT := Lib.hid (fun w => HBits.out x w (by omega))
          have QX := hqx.out x
          have ES1 := ES.out x
          have L4x := Lib.hid (L4.out x hlt)
          have CSx := Lib.hid (fun d => CS.out d x)
          have CBx := Lib.hid (fun d => CB.out d x)
          have HBx := Lib.hid (fun v w h => HBel.out v (tp I2 x) w h)
          rw [QX] at HBx
          have BT2 : Hid (∀ w, Calls Try.prog 9 #[.int .i64 x, .int .i64 (I2 : Nat)] w fun e w' => Below w.heap.size w w' ∧ ∃ v, e = .returned v ∧ RdB w' v (tp I2 x)) := BT.out
          clear BT QX hqx
          generalize tp I2 x = t at *
          generalize fE x = a at *
          generalize hqq : q x = o at *
          go_wp2_with fail
          refine (BT2.out _).mono ?_
          rintro e w3 ⟨hb3, v, rfl, hr⟩
          have HBb := Lib.hid (HBx.out v w3 hr)
          have hbel2 := hbel.trans (hb3.mono hbel.size)
          have hown2 := Lib.hid (own_below HOWN.out hb3 (Nat.le_refl _))
          clear hb3 hr HBx hbel HOWN
          cases o with
          | none =>
            have E1 : Hid (fE (x + 1) = a + 1) := by exact ES1
            have CT : Hid (tabI n (fun d => cnt q d (x + 1)) = tabI n (fun d => cnt q d x)) := tabI_congr fun d _ => by rw [CSx.out d]; rfl
            clear ES1 CSx CBx L4x hqq
            go_wp2_with fail
            refine HBb.out.mono ?_
            rintro e w4 ⟨rfl, rfl⟩
            simp only [bv]
            go_wp2_with fail
            go_roundw
            case rel => exact ⟨x + 1, by omega, by go_num, by rw [E1.out]; go_num, hbel2, by rw [CT.out]; exact hown2.out⟩
            case measure => simp [intOf]; omega
          | some r =>
            obtain ⟨d, u⟩ := r
            obtain ⟨hd, hu⟩ := L4x.out _ rfl
            simp only at hd hu
            have E1 : Hid (fE (x + 1) = a) := by exact ES1
            have CT : Hid (tabI n (fun d => cnt q d (x + 1)) = (tabI n (fun d => cnt q d x)).set d ((cnt q d x + 1 : Nat) : Int)) := by
              show _ = _
              rw [tabI_set]
              refine tabI_congr fun j _ => ?_
              rw [CSx.out j]
              by_cases h : j = d
              · subst h; simp [one]
              · rw [if_neg h]
                have e : decide (some d = some j) = false := by simpa using fun e : d = j => h e.symm
                show cnt q j x + one (decide (some d = some j)) = _
                rw [e]; rfl
            have cb := CBx.out d
            have gc := own_get hown2.out d hd
            rw [tabI_get _ _ _ hd] at gc
            have fr := hown2.out.frozenAt d
            have st := own_set hown2.out d ((cnt q d x + 1 : Nat) : Int)
            rw [← CT.out] at st
            have ST := Lib.hid st
            have hdn : d < n := hd
            clear ES1 CSx CBx L4x hqq CT st
            generalize cnt q d x = y at *
            go_wp2_with fail
            refine HBb.out.mono ?_
            rintro e w4 ⟨rfl, rfl⟩
            simp only [bv]
            go_wp2_with fail
            go_roundw
            case rel => exact ⟨x + 1, by omega, by go_num, by rw [E1.out], hbel2.setCell (by have := (own_lt hown2.out).1; omega) _, ST.out⟩
            case measure => simp [intOf]; omega
        · obtain rfl : x = M := by omega
          have e1 := L6.out
          have T5 : Hid (tabI n (fun d => cnt q d x) = tabI n (fun _ => K + (K - n))) := tabI_congr fun d hd => L5.out d hd
          have hcell : Hid (∀ d, d < n → wr.cell? ⟨g, d, none⟩ = some (.int .i64 ((K + (K - n) : Nat) : Int))) := fun d hd => by
            have h := own_get HOWN.out d hd
            rw [T5.out, tabI_get _ _ _ hd] at h
            exact h
          have hc0 := hcell.out 0 (by omega)
          clear EB ES CB CS C0 E0 L5 L6 L4 T5 HOWN HBits HBel hqx
          generalize fE x = a at *
          generalize hS : K + (K - n) = S at *
          go_wp2_with fail
          go_loop [76] (fun jv => ∃ j : Nat, j ≤ n ∧ jv = .int .i64 j) (fun jv => n - (intOf jv).toNat)
          case atStart => exact ⟨0, Nat.zero_le _, rfl⟩
          case round =>
            obtain ⟨j, hj, rfl⟩ := hrel
            by_cases hjn : j < n
            · have cj := hcell.out j hjn
              have s1 : ((S : Int) != (S : Int)) = false := by simp
              go_wp2_with fail
              go_round
              case rel => exact ⟨j + 1, by omega, by go_num⟩
              case measure => simp [intOf]; omega
            · obtain rfl : j = n := by omega
              have k1 := hKI.out
              have k2 : (K : Int) - (j : Int) = ((K - j : Nat) : Int) := by omega
              have k3 : ((K - j : Nat) : Int) * ((K - j : Nat) : Int) = (a : Int) := by rw [e1]; simp
              have k4 : K - j ≤ 32 := by omega
              clear e1
              generalize K - j = D at *
              go_wp2_with fail
              go_quiet (fail)
              go_wp2_with fail
              go_ret
              exact ⟨by simp [k3], hbel.drewN _⟩
theorem walk_skip (n : Int) (hn : ¬ (1 ≤ n ∧ n ≤ 30)) (w : World) :
    Calls Try.prog 3 #[.int .i64 n] w fun e w' => e = .returned (.bool true) ∧ Below w.heap.size w w' := by
  have HN := Lib.hid hn
  clear hn
  go_enter Try.func3, Try.ntmps3
  go_wp2_with fail
  refine (alive_any _).mono ?_
  rintro e w1 ⟨rfl, hb1⟩
  go_wp2_with fail
  all_goals first
    | (go_ret; exact ⟨by simp, hb1⟩)
    | exact absurd (by omega) HN.out
theorem walk (n : Int) (w : World) (w0 : (Lit.int .i64 n).wf = true) :
    Calls Try.prog 3 #[.int .i64 n] w fun e w' => e = .returned (.bool true) ∧ Below w.heap.size w w' := by
  by_cases hn : 1 ≤ n ∧ n ≤ 30
  · obtain ⟨n, rfl⟩ : ∃ k : Nat, n = k := ⟨n.toNat, by omega⟩
    exact walk_main n (by omega) (by omega) w
  · exact walk_skip n hn w
end Go.Proofs.Ytjcdkajcbefgcaa.tapeEven
