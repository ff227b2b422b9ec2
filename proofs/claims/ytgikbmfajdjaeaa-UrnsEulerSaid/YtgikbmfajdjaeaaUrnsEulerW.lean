/- The walk of UrnsEuler. No condition. -/
import Derived.Test.YtgikbmfajdjaeaaLaws
set_option linter.unusedSimpArgs false
set_option linter.unusedVariables false
namespace Go.Proofs.Ytgikbmfajdjaeaa.urnsEuler
open Go.RowKit Go.Proofs.Ytgikbmfajdjaeaa
set_option maxRecDepth 10000 in
theorem walk_out (n k : Int) (hx : n < 1 ∨ 40 < n ∨ k < 1 ∨ n < k) (w : World) : Calls Try.prog 6 #[.int .i64 n, .int .i64 k] w fun e w' => e = .returned (.bool true) ∧ Below w.heap.size w w' := by
  rcases hx with h | h | h | h
  all_goals
    go_enter Try.func6, Try.ntmps6
    go_wp2_with fail
    refine (alive_any _).mono ?_
    rintro e w1 ⟨rfl, hb1⟩
    go_wp2_with fail
    all_goals
      go_ret
      exact ⟨rfl, hb1⟩
theorem un_low (j i : Nat) (h : i < j + 1) : un (j + 1) i = un j i := by rw [un, if_neg (by omega)]; rfl
theorem un_step (j m : Nat) (h : j + 1 ≤ m) : un (j + 1) m = un j m + un j (m - (j + 1)) := by rw [un, if_pos h]
theorem mid_back (f g : Nat → Nat) (m i : Nat) (x : Int) (hx : x = (f m : Nat)) : (if i = m then x else mid f g (m + 1) i) = mid f g m i := by
  unfold mid
  by_cases h : i = m
  · subst h; rw [if_pos rfl, if_neg (by omega), hx]
  · rw [if_neg h]
    by_cases h2 : i < m
    · rw [if_pos h2, if_pos (by omega)]
    · rw [if_neg h2, if_neg (by omega)]
theorem adds_bd (j m : Nat) (hj : (j + 1) % 2 = 1) (h : j < 40) (hm : m < 41) : adds (j + 1) (od j) m ≤ 1000000 := by
  have := od_bd (j + 1) m (by omega) hm
  rwa [od, if_pos hj] at this
theorem top_le : ∀ n, n < 41 → top n ≤ 8 := by decide +kernel
set_option maxRecDepth 10000 in
set_option maxHeartbeats 3200000 in
theorem walk_in (n k : Nat) (h1 : 1 ≤ n) (hn : n ≤ 40) (h2 : 1 ≤ k) (hk : k ≤ n) (w : World) : Calls Try.prog 6 #[.int .i64 n, .int .i64 k] w fun e w' => e = .returned (.bool true) ∧ Below w.heap.size w w' := by
  obtain ⟨i0, hi, hz0, hz1, hz2⟩ := info_parts Try.info3
  have HJ := Lib.hid (js_all n (by omega) h1)
  have HOU := Lib.hid (odun n (by omega))
  have HREC := Lib.hid (sums_rec n k h2 hk)
  have HSA := Lib.hid (fun w => Sums_any n k (by omega) (by omega) w)
  have HSB : Hid (∀ w, Calls Try.prog 15 #[.int .i64 ((n : Int) - 1), .int .i64 ((k : Int) - 1)] w fun e w' => e = .returned (.tuple #[.int .i64 (sums (n - 1) (k - 1) : Nat), .int .i64 0]) ∧ Below w.heap.size w w') := fun w => by
    have := Sums_any (n - 1) (k - 1) (by omega) (by omega) w
    rwa [show ((n - 1 : Nat) : Int) = (n : Int) - 1 by omega, show ((k - 1 : Nat) : Int) = (k : Int) - 1 by omega] at this
  have HSC : Hid (∀ w, Calls Try.prog 15 #[.int .i64 ((n : Int) - (k : Int)), .int .i64 k] w fun e w' => e = .returned (.tuple #[.int .i64 (sums (n - k) k : Nat), .int .i64 0]) ∧ Below w.heap.size w w') := fun w => by
    have := Sums_any (n - k) k (by omega) (by omega) w
    rwa [show ((n - k : Nat) : Int) = (n : Int) - (k : Int) by omega] at this
  have sb1 : sums (n - 1) (k - 1) ≤ 1000000 := by unfold sums; split; omega; exact pr_bd _ _ (by omega) (by omega)
  have sb2 : sums (n - k) k ≤ 1000000 := by unfold sums; split; omega; exact pr_bd _ _ (by omega) (by omega)
  have hkn : (k : Int) ≤ (n : Int) := by omega
  go_enter Try.func6, Try.ntmps6
  go_wp2_with fail
  refine (alive_any _).mono ?_
  rintro e w1 ⟨rfl, hb1⟩
  go_wp2_with fail
  obtain ⟨f, hf⟩ := OT.maker (n + 1) (by omega)
  rw [show ((n + 1 : Nat) : Int) = (n : Int) + 1 from rfl] at hf
  have hf1 := fun w => (hf w).1
  have o1 : OT (f w1.drew) w1.heap.size w1.heap.size (n + 1) (fun _ => 0) := (hf w1.drew).2.1
  have r1 : w1.drew.grownBy (f w1.drew) none := (hf w1.drew).2.2
  have o2 := (hf (f w1.drew)).2.1
  have r2 := (hf (f w1.drew)).2.2
  have s1 := hb1.size
  have l1 := o1.lt
  have B1 : Below w.heap.size w (f w1.drew) := hb1.drew.grown r1 s1 (fun k hk => by cases hk)
  have B2 : Below w.heap.size w (f (f w1.drew)) := B1.grown r2 B1.size (fun k hk => by cases hk)
  have o1' : OT (f (f w1.drew)) w1.heap.size w1.heap.size (n + 1) (fun _ => 0) := o1.below ((Below.refl _ _).grown r2 (Nat.le_refl _) (fun k hk => by cases hk)) (Nat.le_refl _)
  have HA1 := Lib.hid (o1'.base s1)
  have HA2 := Lib.hid (o2.base B1.size)
  have HBB := Lib.hid B2
  have HNE : Hid (w1.heap.size ≠ (f w1.drew).heap.size) := by have := l1.2; show _ ≠ _; omega
  have HL1 := Lib.hid s1
  have HL2 := Lib.hid B1.size
  clear hf o1 r1 o2 r2 s1 l1 B1 B2 o1'
  go_region
  generalize hgu : w1.heap.size = go at *
  clear hgu
  generalize hgo : (f w1.drew).heap.size = gu at *
  clear hgo
  have hne : go ≠ gu := HNE.out
  have oo := HA1.out
  have ou := HA2.out
  have lo := HL1.out
  have lu := HL2.out
  rotate_left
  generalize hgu : w1.heap.size = gu at *
  clear hgu
  generalize hgo : (f w1.drew).heap.size = go at *
  clear hgo
  have hne : go ≠ gu := fun e => HNE.out e.symm
  have oo := HA2.out
  have ou := HA1.out
  have lo := HL2.out
  have lu := HL1.out
  all_goals
    clear HA1 HA2 HL1 HL2 HNE
    have hbw := HBB.out
    clear HBB
    generalize f (f w1.drew) = W at *
    clear hf1 hb1 w1 f
    have c1 := oo.get 0 (by omega)
    have f1 := oo.frozen 0
    have oo2 := oo.set 0 1
    have ou2 := ou.store_ne (a := ⟨go, 0, none⟩) hne (.int .i64 1)
    have c2 := ou2.get 0 (by omega)
    have c3 := ou.get 0 (by omega)
    have f3 := ou.frozen 0
    have f2 := ou2.frozen 0
    have HU := Lib.hid ((ou2.set 0 1).congr (f' := fun i => (un 0 i : Nat)) fun i hi => by by_cases h : i = 0 <;> simp [un, h])
    have HO := Lib.hid ((oo2.store_ne (a := ⟨gu, 0, none⟩) (fun e => hne e.symm) (.int .i64 1)).congr (f' := fun i => (od 0 i : Nat)) fun i hi => by by_cases h : i = 0 <;> simp [od, h])
    have HB := Lib.hid ((hbw.setCell lo (p := ⟨go, 0, none⟩) (.int .i64 1)).setCell lu (p := ⟨gu, 0, none⟩) (.int .i64 1))
    clear oo ou oo2 ou2 hbw
    go_wp2_with fail
    go_loopw [7] (fun i wr => ∃ j : Nat, j ≤ n ∧ i = .int .i64 ((j : Int) + 1) ∧ OT wr w.heap.size go (n + 1) (fun i => (od j i : Nat)) ∧ OT wr w.heap.size gu (n + 1) (fun i => (un j i : Nat)) ∧ Below w.heap.size w wr) (fun i _ => n + 1 - (intOf i).toNat)
    case atStart => exact ⟨0, Nat.zero_le _, rfl, HO.out, HU.out, HB.out⟩
    case round =>
      clear HO HU HB c1 f1 c2 f2 c3 f3
      obtain ⟨j, hj, rfl, oo, ou, hbel⟩ := hrel
      by_cases hlt : j < n
      · have hlt' : (j : Int) + 1 ≤ (n : Int) := by omega
        by_cases hpar : (j + 1) % 2 = 1
        · have hpar' : (((j : Int) + 1) % 2 == 1) = true := by rw [beq_iff_eq]; omega
          have HPAR := Lib.hid hpar; clear hpar
          have HOE : Hid (∀ i, od (j + 1) i = adds (j + 1) (od j) i) := fun i => by rw [od, if_pos HPAR.out]
          go_wp2_with fail
          obtain ⟨wo, rfl⟩ : ∃ wo : World, wo = wr := ⟨_, rfl⟩
          go_loopw [8] (fun iv wi => ∃ m : Nat, j + 1 ≤ m ∧ m ≤ n + 1 ∧ iv = .int .i64 m ∧ OT wi w.heap.size go (n + 1) (mid (od j) (adds (j + 1) (od j)) m) ∧ OT wi w.heap.size gu (n + 1) (fun i => (un j i : Nat)) ∧ Below w.heap.size w wi) (fun iv _ => n + 1 - (intOf iv).toNat)
          case atStart => exact ⟨j + 1, by omega, by omega, by go_num, oo.congr fun i hi => by
            unfold mid
            by_cases h : i < j + 1
            · rw [if_pos h, adds_low _ _ _ h]
            · rw [if_neg h], ou, hbel⟩
          case round =>
            clear oo ou hbel
            obtain ⟨m, hm1, hm2, rfl, oo, ou, hbel⟩ := hrel
            by_cases hml : m ≤ n
            · have c1 := oo.get m (by omega)
              have c2 := oo.get (m - (j + 1)) (by omega)
              have cf := oo.frozen m
              have m1 : mid (od j) (adds (j + 1) (od j)) m m = (od j m : Nat) := by unfold mid; rw [if_neg (by omega)]
              have m2 : mid (od j) (adds (j + 1) (od j)) m (m - (j + 1)) = (adds (j + 1) (od j) (m - (j + 1)) : Nat) := by unfold mid; rw [if_pos (by omega)]
              rw [m1] at c1
              rw [m2] at c2
              have b1 := od_bd j m (by omega) (by omega)
              have b2 := adds_bd j (m - (j + 1)) HPAR.out (by omega) (by omega)
              have HE : Hid ((od j m : Int) + (adds (j + 1) (od j) (m - (j + 1)) : Int) = (adds (j + 1) (od j) m : Nat)) := by
                show _ = _
                rw [adds_step _ (by omega) _ m hm1, Int.natCast_add]
              obtain ⟨q, hq⟩ : ∃ q : Nat, m - (j + 1) = q := ⟨_, rfl⟩
              have hq2 : (m : Int) - ((j : Int) + 1) = (q : Int) := by omega
              rw [hq] at c2 b2 HE
              have q1 : q ≤ n := by omega
              clear hq m1 m2
              have HO2 := Lib.hid (oo.set m ((od j m : Int) + (adds (j + 1) (od j) q : Int)))
              have HU2 := Lib.hid (ou.store_ne (a := ⟨go, m, none⟩) hne (.int .i64 ((od j m : Int) + (adds (j + 1) (od j) q : Int))))
              have HB2 := Lib.hid (hbel.setCell lo (p := ⟨go, m, none⟩) (.int .i64 ((od j m : Int) + (adds (j + 1) (od j) q : Int))))
              clear oo ou hbel
              have hml' : (m : Int) ≤ (n : Int) := by omega
              generalize hx : od j m = x at *
              generalize hy : adds (j + 1) (od j) q = y at *
              clear hx hy
              go_wp2_with fail
              go_region
              go_wp2_with fail
              go_roundw
              case rel => exact ⟨m + 1, by omega, by omega, by go_num, HO2.out.drew.congr fun i hi => mid_step _ _ _ _ _ HE.out, HU2.out.drew, HB2.out.drew⟩
              case measure => simp [intOf]; omega
            · have hml' : ¬ ((m : Int) ≤ (n : Int)) := by omega
              have HO1 := Lib.hid (oo.congr (f' := fun i => (od (j + 1) i : Nat)) fun i hi => by
                unfold mid; rw [if_pos (by omega), HOE.out i])
              have HU1 := Lib.hid ou
              have HB1 := Lib.hid hbel
              clear oo ou hbel
              go_wp2_with fail
              obtain ⟨wo, rfl⟩ : ∃ wo : World, wo = wr := ⟨_, rfl⟩
              go_loopw [9] (fun iv wi => ∃ m : Nat, m ≤ n ∧ j ≤ m ∧ iv = .int .i64 m ∧ OT wi w.heap.size go (n + 1) (fun i => (od (j + 1) i : Nat)) ∧ OT wi w.heap.size gu (n + 1) (mid (un (j + 1)) (un j) (m + 1)) ∧ Below w.heap.size w wi) (fun iv _ => (intOf iv).toNat)
              case atStart => exact ⟨n, by omega, by omega, rfl, HO1.out, HU1.out.congr fun i hi => by unfold mid; rw [if_pos hi], HB1.out⟩
              case round =>
                clear HO1 HU1 HB1
                obtain ⟨m, hm1, hm2, rfl, oo, ou, hbel⟩ := hrel
                by_cases hml : j + 1 ≤ m
                · obtain ⟨q, rfl⟩ : ∃ q, m = q + 1 := ⟨m - 1, by omega⟩
                  have c1 := ou.get (q + 1) (by omega)
                  have c2 := ou.get (q + 1 - (j + 1)) (by omega)
                  have cf := ou.frozen (q + 1)
                  have m1 : mid (un (j + 1)) (un j) (q + 1 + 1) (q + 1) = (un j (q + 1) : Nat) := by unfold mid; rw [if_pos (by omega)]
                  have m2 : mid (un (j + 1)) (un j) (q + 1 + 1) (q + 1 - (j + 1)) = (un j (q + 1 - (j + 1)) : Nat) := by unfold mid; rw [if_pos (by omega)]
                  rw [m1] at c1
                  rw [m2] at c2
                  have b1 := un_bd j (q + 1) (by omega) (by omega)
                  have b2 := un_bd j (q + 1 - (j + 1)) (by omega) (by omega)
                  have HE : Hid ((un j (q + 1) : Int) + (un j (q + 1 - (j + 1)) : Int) = (un (j + 1) (q + 1) : Nat)) := by
                    show _ = _
                    rw [un_step j (q + 1) hml, Int.natCast_add]
                  obtain ⟨d, hd⟩ : ∃ d : Nat, q + 1 - (j + 1) = d := ⟨_, rfl⟩
                  have hd2 : (q : Int) - (j : Int) = (d : Int) := by omega
                  have c2' := c2
                  rw [hd] at c2' b2 HE
                  rw [show un j (q + 1 - (j + 1)) = un j d by rw [hd]] at c2
                  have c2'' := c2
                  rw [show q + 1 - (j + 1) = q - j by omega] at c2''
                  have q1 : d ≤ q := by omega
                  clear hd m1 m2
                  have HU2 := Lib.hid (ou.set (q + 1) ((un j (q + 1) : Int) + (un j d : Int)))
                  have HO2 := Lib.hid (oo.store_ne (a := ⟨gu, q + 1, none⟩) (fun e => hne e.symm) (.int .i64 ((un j (q + 1) : Int) + (un j d : Int))))
                  have HB2 := Lib.hid (hbel.setCell lu (p := ⟨gu, q + 1, none⟩) (.int .i64 ((un j (q + 1) : Int) + (un j d : Int))))
                  clear oo ou hbel
                  have hml' : (j : Int) + 1 ≤ (q : Int) + 1 := by omega
                  generalize hx : un j (q + 1) = x at *
                  generalize hy : un j d = y at *
                  clear hx hy
                  go_wp2_with fail
                  go_region
                  go_wp2_with fail
                  go_roundw
                  case rel => exact ⟨q, by omega, by omega, by go_num, HO2.out.drew, HU2.out.drew.congr fun i hi => mid_back _ _ _ _ _ HE.out, HB2.out.drew⟩
                  case measure => simp [intOf]
                · obtain rfl : m = j := by omega
                  have hml' : ¬ ((m : Int) + 1 ≤ (m : Int)) := by omega
                  have HU2 := Lib.hid (ou.congr (f' := fun i => (un (m + 1) i : Nat)) fun i hi => by
                    unfold mid
                    by_cases h : i < m + 1
                    · rw [if_pos h, un_low m i h]
                    · rw [if_neg h])
                  have HO2 := Lib.hid oo
                  have HB2 := Lib.hid hbel
                  clear oo ou hbel
                  go_wp2_with fail
                  go_roundw
                  case rel => exact ⟨m + 1, by omega, by go_num, HO2.out, HU2.out, HB2.out⟩
                  case measure => simp [intOf]; omega
        · have hpar' : (((j : Int) + 1) % 2 == 1) = false := by rw [beq_eq_false_iff_ne]; omega
          have HPAR := Lib.hid hpar; clear hpar
          have HO1 := Lib.hid (oo.congr (f' := fun i => (od (j + 1) i : Nat)) fun i hi => by rw [od, if_neg HPAR.out])
          have HU1 := Lib.hid ou
          have HB1 := Lib.hid hbel
          clear oo ou hbel
          go_wp2_with fail
          obtain ⟨wo, rfl⟩ : ∃ wo : World, wo = wr := ⟨_, rfl⟩
          go_loopw [9] (fun iv wi => ∃ m : Nat, m ≤ n ∧ j ≤ m ∧ iv = .int .i64 m ∧ OT wi w.heap.size go (n + 1) (fun i => (od (j + 1) i : Nat)) ∧ OT wi w.heap.size gu (n + 1) (mid (un (j + 1)) (un j) (m + 1)) ∧ Below w.heap.size w wi) (fun iv _ => (intOf iv).toNat)
          case atStart => exact ⟨n, by omega, by omega, rfl, HO1.out, HU1.out.congr fun i hi => by unfold mid; rw [if_pos hi], HB1.out⟩
          case round =>
            clear HO1 HU1 HB1
            obtain ⟨m, hm1, hm2, rfl, oo, ou, hbel⟩ := hrel
            by_cases hml : j + 1 ≤ m
            · obtain ⟨q, rfl⟩ : ∃ q, m = q + 1 := ⟨m - 1, by omega⟩
              have c1 := ou.get (q + 1) (by omega)
              have c2 := ou.get (q + 1 - (j + 1)) (by omega)
              have cf := ou.frozen (q + 1)
              have m1 : mid (un (j + 1)) (un j) (q + 1 + 1) (q + 1) = (un j (q + 1) : Nat) := by unfold mid; rw [if_pos (by omega)]
              have m2 : mid (un (j + 1)) (un j) (q + 1 + 1) (q + 1 - (j + 1)) = (un j (q + 1 - (j + 1)) : Nat) := by unfold mid; rw [if_pos (by omega)]
              rw [m1] at c1
              rw [m2] at c2
              have b1 := un_bd j (q + 1) (by omega) (by omega)
              have b2 := un_bd j (q + 1 - (j + 1)) (by omega) (by omega)
              have HE : Hid ((un j (q + 1) : Int) + (un j (q + 1 - (j + 1)) : Int) = (un (j + 1) (q + 1) : Nat)) := by
                show _ = _
                rw [un_step j (q + 1) hml, Int.natCast_add]
              obtain ⟨d, hd⟩ : ∃ d : Nat, q + 1 - (j + 1) = d := ⟨_, rfl⟩
              have hd2 : (q : Int) - (j : Int) = (d : Int) := by omega
              have c2' := c2
              rw [hd] at c2' b2 HE
              rw [show un j (q + 1 - (j + 1)) = un j d by rw [hd]] at c2
              have c2'' := c2
              rw [show q + 1 - (j + 1) = q - j by omega] at c2''
              have q1 : d ≤ q := by omega
              clear hd m1 m2
              have HU2 := Lib.hid (ou.set (q + 1) ((un j (q + 1) : Int) + (un j d : Int)))
              have HO2 := Lib.hid (oo.store_ne (a := ⟨gu, q + 1, none⟩) (fun e => hne e.symm) (.int .i64 ((un j (q + 1) : Int) + (un j d : Int))))
              have HB2 := Lib.hid (hbel.setCell lu (p := ⟨gu, q + 1, none⟩) (.int .i64 ((un j (q + 1) : Int) + (un j d : Int))))
              clear oo ou hbel
              have hml' : (j : Int) + 1 ≤ (q : Int) + 1 := by omega
              generalize hx : un j (q + 1) = x at *
              generalize hy : un j d = y at *
              clear hx hy
              go_wp2_with fail
              go_region
              go_wp2_with fail
              go_roundw
              case rel => exact ⟨q, by omega, by omega, by go_num, HO2.out.drew, HU2.out.drew.congr fun i hi => mid_back _ _ _ _ _ HE.out, HB2.out.drew⟩
              case measure => simp [intOf]
            · obtain rfl : m = j := by omega
              have hml' : ¬ ((m : Int) + 1 ≤ (m : Int)) := by omega
              have HU2 := Lib.hid (ou.congr (f' := fun i => (un (m + 1) i : Nat)) fun i hi => by
                unfold mid
                by_cases h : i < m + 1
                · rw [if_pos h, un_low m i h]
                · rw [if_neg h])
              have HO2 := Lib.hid oo
              have HB2 := Lib.hid hbel
              clear oo ou hbel
              go_wp2_with fail
              go_roundw
              case rel => exact ⟨m + 1, by omega, by go_num, HO2.out, HU2.out, HB2.out⟩
              case measure => simp [intOf]; omega
      · obtain rfl : j = n := by omega
        have hge : ¬ ((j : Int) + 1 ≤ (j : Int)) := by omega
        have HO1 := Lib.hid oo
        have HU1 := Lib.hid ou
        have HB1 := Lib.hid hbel
        clear oo ou hbel
        go_wp2_with fail
        go_loopw [10, 11] (fun sv iv wi => ∃ J : Nat, J ≤ top j ∧ iv = .int .i64 ((J : Int) + 1) ∧ sv = .int .i64 (js j J : Nat) ∧ OT wi w.heap.size go (j + 1) (fun i => (od j i : Nat)) ∧ OT wi w.heap.size gu (j + 1) (fun i => (un j i : Nat)) ∧ Below w.heap.size w wi) (fun _ iv _ => top j + 1 - (intOf iv).toNat)
        case atStart => exact ⟨0, Nat.zero_le _, rfl, rfl, HO1.out, HU1.out, HB1.out⟩
        case round =>
          clear HO1 HU1 HB1
          obtain ⟨J, hJ, rfl, rfl, oo, ou, hbel⟩ := hrel
          have hj8 := top_le j (by omega)
          have bj := js_bd j (by omega) J (by omega)
          have htop := top_is j (by omega) J (by omega)
          obtain ⟨t, ht⟩ : ∃ t : Nat, (J + 1) * (J + 2) = t := ⟨_, rfl⟩
          have ht2 : ((J : Int) + 1) * ((J : Int) + 1 + 1) = (t : Int) := by rw [← ht, Int.natCast_mul]; rfl
          have t8 : t ≤ 200 := by
            have := Nat.mul_le_mul (show J + 1 ≤ 10 by omega) (show J + 2 ≤ 20 by omega)
            omega
          have HTD := Lib.hid ht
          rw [ht] at htop
          obtain ⟨u, hu⟩ : ∃ u : Nat, (J + 1) * J = u := ⟨_, rfl⟩
          have hu2 : ((J : Int) + 1) * (J : Int) = (u : Int) := by rw [← hu]; simp
          have hu3 : ((J : Int) + 1) * ((J : Int) + 1 - 1) = (u : Int) := by rw [← hu]; simp
          have htu : t = u + 2 * (J + 1) := by rw [← ht, ← hu]; rw [Nat.mul_add]; omega
          clear ht hu
          by_cases hlJ : J + 1 ≤ top j
          · have hq : t / 2 ≤ j := by
              rw [decide_eq_true hlJ] at htop
              exact of_decide_eq_true htop.symm
            have hq' : (t : Int) / 2 ≤ (j : Int) := by omega
            have HA : Hid (js j (J + 1) = js j J + pr (J + 1) (j - t / 2)) := by
              show _ = _
              rw [js, HTD.out]
            have HS1 : Hid (∀ w, Calls Try.prog 15 #[.int .i64 ((j : Int) - (u : Int) / 2), .int .i64 ((J : Int) + 1)] w fun e w' => e = .returned (.tuple #[.int .i64 (pr (J + 1) (j - t / 2) : Nat), .int .i64 0]) ∧ Below w.heap.size w w') := fun w => by
              have := Sums_any (j - u / 2) (J + 1) (by omega) (by omega) w
              rw [sums, if_neg (by omega), show j - u / 2 - (J + 1) = j - t / 2 by omega] at this
              rwa [show ((j - u / 2 : Nat) : Int) = (j : Int) - (u : Int) / 2 by omega] at this
            have bp := pr_bd (J + 1) (j - t / 2) (by omega) (by omega)
            clear htop
            generalize js j J = s at *
            generalize pr (J + 1) (j - t / 2) = x at *
            go_wp2_with fail
            refine (HS1.out _).mono ?_
            rintro e w2 ⟨rfl, hb2⟩
            have s1 := hbel.size
            have HB := Lib.hid (hbel.trans (hb2.mono s1))
            have HO := Lib.hid (oo.below hb2 (Nat.le_refl _))
            have HU := Lib.hid (ou.below hb2 (Nat.le_refl _))
            clear oo ou hbel hb2 s1
            go_wp2_with fail
            go_roundw
            case rel => exact ⟨J + 1, by omega, by go_num, by rw [HA.out]; rfl, HO.out, HU.out, HB.out⟩
            case measure => simp [intOf]; omega
          · have hq : ¬ (t / 2 ≤ j) := by
              rw [decide_eq_false hlJ] at htop
              exact of_decide_eq_false htop.symm
            have hq' : ¬ ((t : Int) / 2 ≤ (j : Int)) := by omega
            obtain rfl : J = top j := by omega
            clear htop
            have hs := HJ.out
            have ho2 := HOU.out
            obtain ⟨x, hx⟩ : ∃ x, un j j = x := ⟨_, rfl⟩
            have HX1 : Hid (od j j = x) := ho2.trans hx
            have HX2 : Hid (un j j = x) := hx
            rw [hs, hx] at bj ⊢
            have hre := HREC.out
            rw [hre] at HSA
            rw [Int.natCast_add] at HSA
            have HO := Lib.hid oo
            have HU := Lib.hid ou
            have s1 := hbel.size
            have HB := Lib.hid hbel
            clear oo ou hbel hs ho2 hre HREC HJ HOU
            clear hx
            generalize sums (j - 1) (k - 1) = y at *
            generalize sums (j - k) k = z at *
            generalize top j = J at *
            go_wp2_with fail
            refine (HSA.out _).mono ?_
            rintro e w2 ⟨rfl, hb2⟩
            go_wp2_with fail
            refine (HSB.out _).mono ?_
            rintro e w3 ⟨rfl, hb3⟩
            have hk0 : (0 : Int) ≤ (j : Int) - (k : Int) := by omega
            go_wp2_with fail
            refine (HSC.out _).mono ?_
            rintro e w4 ⟨rfl, hb4⟩
            have s2 := hb2.size
            have s3 := hb3.size
            have HB2 := Lib.hid (((HB.out.trans (hb2.mono s1)).trans (hb3.mono (by omega))).trans (hb4.mono (by omega)))
            have U4 := (((HU.out.below hb2 (Nat.le_refl _)).below hb3 (Nat.le_refl _)).below hb4 (Nat.le_refl _))
            have O4 := (((HO.out.below hb2 (Nat.le_refl _)).below hb3 (Nat.le_refl _)).below hb4 (Nat.le_refl _))
            have c1 := O4.get j (by omega)
            have c2 := U4.get j (by omega)
            rw [HX1.out] at c1
            rw [HX2.out] at c2
            clear hb2 hb3 hb4 s2 s3 HB O4 U4 HO HU
            go_wp2_with fail
            go_region
            go_wp2_with fail
            go_ret
            exact ⟨by simp, HB2.out.drew⟩
theorem walk (a0 a1 : Int) (w : World) (w0 : (Lit.int .i64 a0).wf = true) (w1 : (Lit.int .i64 a1).wf = true) :
    Calls Try.prog 6 #[.int .i64 a0, .int .i64 a1] w fun e w' => e = .returned (.bool true) ∧ Below w.heap.size w w' := by
  by_cases hx : a0 < 1 ∨ 40 < a0 ∨ a1 < 1 ∨ a0 < a1
  · exact walk_out a0 a1 hx w
  · obtain ⟨n, rfl⟩ : ∃ n : Nat, a0 = n := ⟨a0.toNat, by omega⟩
    obtain ⟨k, rfl⟩ : ∃ n : Nat, a1 = n := ⟨a1.toNat, by omega⟩
    exact walk_in n k (by omega) (by omega) (by omega) (by omega) w
end Go.Proofs.Ytgikbmfajdjaeaa.urnsEuler
