/- The walk of DropFair. No condition beyond rows within the reach. -/
import Derived.Test.YtkmjjckpolopgaaAl
import Derived.Test.YtkmjjckpolopgaaFairL
set_option linter.unusedSimpArgs false
set_option linter.unusedVariables false
namespace Go.Proofs.Ytkmjjckpolopgaa.dropFair
open Go.RowKit Go.Proofs.Ytkmjjckpolopgaa
theorem max2_run (a b : Int) (w : World) : (Builtin.max_ #[3, 3] 3 #[.int .i64 a, .int .i64 b]).run Try.prog w = .ok (.int .i64 (max a b)) w := by
  have h2 : ∀ (x y : Int) (w : World), (Builtin.max2 (.int .i64 x) (.int .i64 y)).run Try.prog w = .ok (.int .i64 (max x y)) w := fun x y w => by
    have e : (if x < y then y else x) = max x y := by split <;> omega
    simp [Builtin.max2, e]
  simp [Builtin.max_, List.foldlM, h2, Sem.run_bind, Result.andThen]
set_option maxHeartbeats 3200000 in
theorem run (v v' : Value) (zs : List Int) (ss : List Bool) (w : World) (h : Rd w v zs) (h' : RdB w v' ss) :
    Calls Try.prog 6 #[v, v'] w fun e w' => e = .returned (.bool true) ∧ Below w.heap.size w w' := by
  have HR := Lib.hid h
  obtain ⟨a, cap, he1, hlc, hcm, hop⟩ := h.open
  obtain ⟨a', cap', he2, -, -, hop'⟩ := h'.open
  obtain ⟨n, hn⟩ : ∃ n, zs.length = n := ⟨_, rfl⟩
  obtain ⟨n', hn'⟩ : ∃ n, ss.length = n := ⟨_, rfl⟩
  rw [hn] at he1 hop hlc
  rw [hn'] at he2 hop'
  obtain ⟨m, hm⟩ : ∃ m : Int, (n : Int) - 1 = m := ⟨_, rfl⟩
  have q0 : IntKind.i64.wrap ((n : Int) - 1) = m := by rw [IntKind.wrap_i64]; omega
  have HN := Lib.hid hn
  have HN' := Lib.hid hn'
  by_cases hok : OkD zs m
  · have HL := Lib.hid (fun w1 hb1 => lev_many_any v zs m w1 (HR.out.below (w' := w1) hb1 (Nat.le_refl _)) hok (by omega))
    have HON := Lib.hid (fun w1 hb1 d => one_any v zs d w1 (HR.out.below (w' := w1) hb1 (Nat.le_refl _)) (by rw [hn, hm]; exact hok))
    have hol := one_law (ws := zs) (by rw [hn, hm]; exact hok)
    have hfl := fair_law (ws := zs) (by rw [hn, hm]; exact hok) ss
    rw [hn, hm] at HON hol hfl
    obtain ⟨a1, a2, a3, a4, -⟩ := lev_law hok (by omega)
    obtain ⟨h1, h2, h3, h4⟩ := hok
    generalize (lev zs m).1 = N at *
    generalize (lev zs m).2 = D at *
    have HW := Lib.hid h4
    have HOP := Lib.hid hop
    have HOP' := Lib.hid hop'
    unfold fr at HL
    rw [hn] at h1
    subst he1
    subst he2
    clear h hn hop h4 h' hop' hn'
    by_cases hbig : N ≤ 600 ∧ n ≤ 8 ∧ n' = n
    · obtain ⟨b1, b2, rfl⟩ := hbig
      have t1 : decide ((600 : Int) < N) = false := decide_eq_false (by omega)
      have t2 : decide ((8 : Int) < (n' : Int)) = false := decide_eq_false (by omega)
      have t3 : ((n' : Int) != (n' : Int)) = false := by simp
      obtain ⟨K, hK⟩ : ∃ K : Nat, N = (K : Int) := ⟨N.toNat, by omega⟩
      have HTL : Hid ((blk N D zs 0).length = K) := by show _ = _; omega
      have HFL := Lib.hid (hfl (by rw [HN'.out]))
      have HO1 : Hid (∀ w1, Below w.heap.size w w1 → ∀ (d k : Nat), d ≤ 600 → (blk N D zs 0)[d]? = some k → Calls Try.prog 11 #[.slice a n' cap, .int .i64 (d : Int)] w1 fun e w' => e = .returned (.tuple #[.int .i64 (k : Int), .int .i64 0]) ∧ Below w1.heap.size w1 w') := fun w1 hb d k hd he => by
        have := HON.out w1 hb (d : Int) ⟨by omega, by omega⟩
        rw [one_blk, he] at this
        exact this
      generalize blk N D zs 0 = T at *
      subst hK
      clear hol HON hfl
      go_enter Try.func6, Try.ntmps6
      go_wp2_with fail
      refine (alive_any w).mono ?_
      rintro e w1 ⟨rfl, hb1⟩
      have HB1 := Lib.hid hb1
      have HC := Lib.hid (HL.out w1 hb1)
      clear hb1
      go_wp2_with fail
      refine HC.out.mono ?_
      rintro e w2 ⟨rfl, hb2⟩
      obtain ⟨w3, hw3⟩ : ∃ X, w2.alloc (.cells #[.int .i64 (K : Int), .int .i64 D] 25) = X := ⟨_, rfl⟩
      have hb3 : Below w.heap.size w w3 := by rw [← hw3]; exact (HB1.out.trans (hb2.mono HB1.out.size)).alloc (by have := HB1.out.size; have := hb2.size; omega) _
      have HB3 := Lib.hid hb3
      have HK := Lib.hid (kept2 hw3)
      have HW3 := Lib.hid hw3
      clear hb3 hb2 hw3 HC HL q0
      go_wp2_with fail
      rw [HW3.out]
      obtain ⟨B, hB⟩ : ∃ B, w2.heap.size = B := ⟨_, rfl⟩
      rw [hB] at HK ⊢
      clear HW3 hB t1 t2 t3
      go_loopw [47, 8] (fun iv sv wr => ∃ (k : Nat) (S : Int), k ≤ n' ∧ iv = .int .i64 k ∧ sv = .int .i64 S ∧ Hid (S = were K D (zs.take k) (ss.take k)) ∧ Hid (∃ q, wr = w3.drewN q)) (fun iv _ _ => n' - (intOf iv).toNat)
      case atStart => exact ⟨0, 0, Nat.zero_le _, rfl, rfl, (by show (0 : Int) = _; simp [were]), ⟨0, rfl⟩⟩
      case round =>
        obtain ⟨k, S, hk, rfl, rfl, HS, HWR⟩ := hrel
        obtain ⟨q, hq⟩ := HWR.out
        subst hq
        by_cases hkn : k < n'
        · obtain ⟨b, off, rfl, hb, hc⟩ := HOP.out k hkn
          obtain ⟨b', off', rfl, hb', hc'⟩ := HOP'.out k hkn
          have d1 : (w3.drewN q).cell? ⟨b, off + k, none⟩ = some (.int .i64 (zs.getD k 0)) := (World.cell?_of_block (HB3.out.block b hb)).trans (hc k hkn)
          have d2 : (w3.drewN q).cell? ⟨b', off' + k, none⟩ = some (.bool (ss.getD k false)) := (World.cell?_of_block (HB3.out.block b' hb')).trans (hc' k hkn)
          obtain ⟨d3, d4⟩ := HK.out (w3.drewN q) ((Below.refl _ _).drewN q)
          have hx := HW.out _ (getD_memI zs k (by rw [HN.out]; exact hkn))
          have ht := were_take K D zs ss k (by rw [HN.out]; exact hkn) (by rw [HN'.out]; exact hkn)
          have hbd := were_bd (N := K) (D := D) ⟨by omega, by omega⟩ ⟨by omega, by omega⟩ (ss.take k) (HW.out.take k)
          rw [List.length_take, HN.out, Nat.min_eq_left hk] at hbd
          rw [← HS.out] at ht hbd
          clear hc hc'
          generalize zs.getD k 0 = x at *
          generalize ss.getD k false = bb at *
          have hxb : 0 ≤ x * D ∧ x * D ≤ 1048576 * 400 := ⟨Int.mul_nonneg (by omega) (by omega), Int.mul_le_mul (by omega) (by omega) (by omega) (by omega)⟩
          obtain ⟨xd, hxd⟩ : ∃ z, x * D = z := ⟨_, rfl⟩
          rw [hxd] at hxb ht
          have hxn : 0 ≤ xd * K ∧ xd * K ≤ 1048576 * 400 * 600 := ⟨Int.mul_nonneg hxb.1 (by omega), Int.mul_le_mul hxb.2 (by omega) (by omega) (by omega)⟩
          obtain ⟨xn, hxn'⟩ : ∃ z, xd * (K : Int) = z := ⟨_, rfl⟩
          rw [hxn'] at hxn ht
          obtain ⟨S', hS'⟩ : ∃ z, S + xn = z := ⟨_, rfl⟩
          have y1 : IntKind.i64.wrap (x * D) = xd := by rw [IntKind.wrap_i64, hxd]; omega
          have y2 : IntKind.i64.wrap (xd * (K : Int)) = xn := by rw [IntKind.wrap_i64, hxn']; omega
          have y3 : IntKind.i64.wrap (S + xn) = S' := by rw [IntKind.wrap_i64]; omega
          have p1 : (0 ≤ (k : Int) ∧ (k : Int) < (n' : Int)) = True := eq_true ⟨by omega, by omega⟩
          have HSn : Hid (were K D (zs.take (k + 1)) (ss.take (k + 1)) = if bb = true then S' else S) := by
            show _ = _
            rw [ht]
            split <;> omega
          clear hx ht hbd hxb hxd hxn hxn' hS' hb hb'
          cases bb with
          | true =>
            go_wp2_with fail
            go_roundw
            case rel => exact ⟨k + 1, S', by omega, by go_num, rfl, (by show _ = _; rw [HSn.out]; rfl), ⟨_, rfl⟩⟩
            case measure => simp [intOf]; omega
          | false =>
            go_wp2_with fail
            go_roundw
            case rel => exact ⟨k + 1, S, by omega, by go_num, rfl, (by show _ = _; rw [HSn.out]; rfl), ⟨_, rfl⟩⟩
            case measure => simp [intOf]; omega
        · obtain rfl : n' = k := by omega
          have hS := HS.out
          rw [List.take_of_length_le (by rw [HN.out]; exact Nat.le_refl _), List.take_of_length_le (by rw [HN'.out]; exact Nat.le_refl _), ← HFL.out] at hS
          have HSF := Lib.hid hS
          obtain ⟨w4, hw4⟩ : ∃ X, w3.drewN q = X := ⟨_, rfl⟩
          have HB34 : Hid (Below w3.heap.size w3 w4) := by show Below _ _ _; rw [← hw4]; exact (Below.refl _ _).drewN q
          obtain ⟨d3, d4⟩ := HK.out w4 HB34.out
          rw [hw4]
          clear HS hS hw4 HWR
          go_wp2_with fail
          clear d3 d4
          go_loopw [68, 7] (fun iv sv wr => ∃ (d : Nat) (S : Int), d ≤ K ∧ iv = .int .i64 d ∧ sv = .int .i64 S ∧ Hid (S = tot (inn K D zs ss 0) (T.take d)) ∧ Hid (Below w3.heap.size w3 wr)) (fun iv _ _ => K - (intOf iv).toNat)
          case atStart => exact ⟨0, 0, Nat.zero_le _, rfl, rfl, rfl, HB34.out⟩
          case round =>
            clear HB34
            obtain ⟨d, Z, hd, rfl, rfl, HZ, HB⟩ := hrel
            by_cases hdk : d < K
            · obtain ⟨j, hj⟩ : ∃ j, T[d]? = some j := ⟨T[d]'(by rw [HTL.out]; exact hdk), List.getElem?_eq_getElem _⟩
              have HC := Lib.hid (HO1.out wr (HB3.out.trans (HB.out.mono HB3.out.size)) d j (by omega) hj)
              have HTT := Lib.hid (tot_take (inn K D zs ss 0) T d j hj)
              have hzb := tot_bd (f := inn K D zs ss 0) (c := 3355443200) (fun j => by
                have := inn_bd (N := K) (D := D) ⟨by omega, by omega⟩ ⟨by omega, by omega⟩ j ss 0 HW.out
                rw [HN.out] at this; omega) (T.take d)
              rw [← HZ.out, List.length_take, HTL.out, Nat.min_eq_left hd] at hzb
              have hzb' : 0 ≤ Z ∧ Z ≤ 2013265920000 := by omega
              clear hzb
              go_wp2_with fail
              refine HC.out.mono ?_
              rintro e w5 ⟨rfl, hb5⟩
              have HB5 := Lib.hid (HB.out.trans (hb5.mono HB.out.size))
              clear hb5 HC HB hj
              go_wp2_with fail
              go_loopw [81, 7] (fun iv sv w' => ∃ (k : Nat) (S : Int), k ≤ n' ∧ iv = .int .i64 k ∧ sv = .int .i64 S ∧ Hid (S = Z + inn K D (zs.take k) (ss.take k) 0 j) ∧ Hid (∃ q, w' = w5.drewN q)) (fun iv _ _ => n' - (intOf iv).toNat)
              case atStart => exact ⟨0, Z, Nat.zero_le _, rfl, rfl, (by show Z = _; simp [inn]), ⟨0, rfl⟩⟩
              case round =>
                obtain ⟨k, S, hk, rfl, rfl, HS, HWR⟩ := hrel
                obtain ⟨q, hq⟩ := HWR.out
                subst hq
                by_cases hkn : k < n'
                · obtain ⟨b, off, rfl, hb, hc⟩ := HOP.out k hkn
                  obtain ⟨b', off', rfl, hb', hc'⟩ := HOP'.out k hkn
                  have d1 : w5.cell? ⟨b, off + k, none⟩ = some (.int .i64 (zs.getD k 0)) := (World.cell?_of_block ((HB3.out.trans (HB5.out.mono HB3.out.size)).block b hb)).trans (hc k hkn)
                  have d2 : w5.cell? ⟨b', off' + k, none⟩ = some (.bool (ss.getD k false)) := (World.cell?_of_block ((HB3.out.trans (HB5.out.mono HB3.out.size)).block b' hb')).trans (hc' k hkn)
                  obtain ⟨d3, d4⟩ := HK.out w5 HB5.out
                  have hx := HW.out _ (getD_memI zs k (by rw [HN.out]; exact hkn))
                  have ht := inn_take K D j zs ss 0 k (by rw [HN.out]; exact hkn) (by rw [HN'.out]; exact hkn)
                  have hbd := inn_bd (N := K) (D := D) ⟨by omega, by omega⟩ ⟨by omega, by omega⟩ j (ss.take k) 0 (HW.out.take k)
                  rw [List.length_take, HN.out, Nat.min_eq_left hk] at hbd
                  rw [Nat.zero_add] at ht
                  have hSS := HS.out
                  clear hc hc'
                  generalize zs.getD k 0 = x at *
                  generalize ss.getD k false = bb at *
                  have hxb : 0 ≤ x * D ∧ x * D ≤ 1048576 * 400 := ⟨Int.mul_nonneg (by omega) (by omega), Int.mul_le_mul (by omega) (by omega) (by omega) (by omega)⟩
                  unfold mx at ht
                  obtain ⟨xd, hxd⟩ : ∃ z, x * D = z := ⟨_, rfl⟩
                  rw [hxd] at hxb ht
                  have emax := fun (w : World) => max2_run xd (K : Int) w
                  obtain ⟨mm, hmm⟩ : ∃ z, max xd (K : Int) = z := ⟨_, rfl⟩
                  have hmb : 0 ≤ mm ∧ mm ≤ 419430400 := by omega
                  rw [hmm] at emax ht
                  obtain ⟨S', hS'⟩ : ∃ z, S + mm = z := ⟨_, rfl⟩
                  have y1 : IntKind.i64.wrap (x * D) = xd := by rw [IntKind.wrap_i64, hxd]; omega
                  have y3 : IntKind.i64.wrap (S + mm) = S' := by rw [IntKind.wrap_i64]; omega
                  have p1 : (0 ≤ (k : Int) ∧ (k : Int) < (n' : Int)) = True := eq_true ⟨by omega, by omega⟩
                  have HSn : Hid (Z + inn K D (zs.take (k + 1)) (ss.take (k + 1)) 0 j = if bb = true ∧ k ≠ j then S' else S) := by
                    show _ = _
                    rw [ht]
                    split <;> omega
                  clear hx ht hbd hxb hxd hmm hmb hS' hSS hb hb' hzb'
                  cases bb with
                  | true =>
                    by_cases hkj : k = j
                    · have t1 : ((k : Int) != (j : Int)) = false := by simp [hkj]
                      have HSn2 : Hid (S = Z + inn K D (zs.take (k + 1)) (ss.take (k + 1)) 0 j) := by show _ = _; rw [HSn.out, if_neg (fun h => h.2 hkj)]
                      clear hkj HSn
                      go_wp2_with fail
                      try go_region
                      go_wp2_with fail
                      go_roundw
                      case rel => exact ⟨k + 1, S, by omega, by go_num, rfl, HSn2.out, ⟨_, rfl⟩⟩
                      case measure => simp [intOf]; omega
                    · have t1 : ((k : Int) != (j : Int)) = true := by rw [bne_iff_ne]; omega
                      have HSn2 : Hid (S' = Z + inn K D (zs.take (k + 1)) (ss.take (k + 1)) 0 j) := by show _ = _; rw [HSn.out, if_pos ⟨rfl, hkj⟩]
                      clear hkj HSn
                      go_wp2_with fail
                      try go_region
                      go_wp2_with fail
                      try go_region
                      go_wp2_with fail
                      go_roundw
                      case rel => exact ⟨k + 1, S', by omega, by go_num, rfl, HSn2.out, ⟨_, rfl⟩⟩
                      case measure => simp [intOf]; omega
                  | false =>
                    have HSn2 : Hid (S = Z + inn K D (zs.take (k + 1)) (ss.take (k + 1)) 0 j) := by show _ = _; rw [HSn.out, if_neg (fun h => by cases h.1)]
                    clear HSn
                    go_wp2_with fail
                    try go_region
                    go_wp2_with fail
                    go_roundw
                    case rel => exact ⟨k + 1, S, by omega, by go_num, rfl, HSn2.out, ⟨_, rfl⟩⟩
                    case measure => simp [intOf]; omega
                · obtain rfl : n' = k := by omega
                  have hS := HS.out
                  rw [List.take_of_length_le (by rw [HN.out]; exact Nat.le_refl _), List.take_of_length_le (by rw [HN'.out]; exact Nat.le_refl _), HZ.out, ← HTT.out] at hS
                  have HSF2 := Lib.hid hS
                  have HB6 := Lib.hid (HB5.out.drewN q)
                  clear HS hS HWR
                  go_wp2_with fail
                  go_roundw
                  case rel => exact ⟨d + 1, S, by omega, by go_num, rfl, HSF2.out, HB6.out⟩
                  case measure => simp [intOf]; omega
            · obtain rfl : d = K := by omega
              have hZ := HZ.out
              rw [List.take_of_length_le (by rw [HTL.out]; exact Nat.le_refl _), ← HSF.out] at hZ
              have t1 : (Z == S) = true := by rw [beq_iff_eq]; exact hZ
              have HBF := Lib.hid (HB3.out.trans (HB.out.mono HB3.out.size))
              clear hZ
              go_wp2_with fail
              go_ret
              exact ⟨rfl, HBF.out⟩
    · have HT : Hid (decide ((600 : Int) < N) = true ∨ (decide ((600 : Int) < N) = false ∧ decide ((8 : Int) < (n : Int)) = true) ∨ (decide ((600 : Int) < N) = false ∧ decide ((8 : Int) < (n : Int)) = false ∧ ((n' : Int) != (n : Int)) = true)) := by
        show _ ∨ _ ∨ _
        by_cases g : (600 : Int) < N
        · exact .inl (decide_eq_true g)
        · by_cases g2 : (8 : Int) < (n : Int)
          · exact .inr (.inl ⟨decide_eq_false g, decide_eq_true g2⟩)
          · exact .inr (.inr ⟨decide_eq_false g, decide_eq_false g2, by rw [bne_iff_ne]; omega⟩)
      clear hbig hol HON hfl
      rcases HT.out with t1 | ⟨t1, t2⟩ | ⟨t1, t2, t3⟩
      all_goals
        go_enter Try.func6, Try.ntmps6
        go_wp2_with fail
        refine (alive_any w).mono ?_
        rintro e w1 ⟨rfl, hb1⟩
        have HB1 := Lib.hid hb1
        have HC := Lib.hid (HL.out w1 hb1)
        clear hb1
        go_wp2_with fail
        refine HC.out.mono ?_
        rintro e w2 ⟨rfl, hb2⟩
        have HB2 := Lib.hid (HB1.out.trans (hb2.mono HB1.out.size))
        clear hb2 HC HL
        go_wp2_with fail
        go_ret
        exact ⟨rfl, HB2.out.alloc HB2.out.size _⟩
  · have HL := Lib.hid (fun w1 hb1 => lev_bad v zs m w1 (HR.out.below (w' := w1) hb1 (Nat.le_refl _)) hok)
    unfold fr at HL
    subst he1
    subst he2
    clear h hn hop hok h' hop' hn'
    go_enter Try.func6, Try.ntmps6
    go_wp2_with fail
    refine (alive_any w).mono ?_
    rintro e w1 ⟨rfl, hb1⟩
    have HB1 := Lib.hid hb1
    have HC := Lib.hid (HL.out w1 hb1)
    clear hb1
    go_wp2_with fail
    refine HC.out.mono ?_
    rintro e w2 ⟨rfl, hb2⟩
    have HB2 := Lib.hid (HB1.out.trans (hb2.mono HB1.out.size))
    clear hb2 HC HL
    go_wp2_with fail
    go_ret
    exact ⟨rfl, HB2.out.alloc HB2.out.size _⟩
theorem walk (a0 : Option Addr) (len0 cap0 : Nat) (z0 : List Int) (a1 : Option Addr) (len1 cap1 : Nat) (z1 : List Bool) (w : World) (w0 : IsRow .i64 w a0 len0 cap0 z0) (w1 : IsRowB w a1 len1 cap1 z1) :
    Calls Try.prog 6 #[.slice a0 len0 cap0, .slice a1 len1 cap1] w fun e w' => e = .returned (.bool true) ∧ Below w.heap.size w w' := by
  obtain ⟨h1, -⟩ := w0.rd
  exact run _ _ _ _ w h1 w1.rd
end Go.Proofs.Ytkmjjckpolopgaa.dropFair
