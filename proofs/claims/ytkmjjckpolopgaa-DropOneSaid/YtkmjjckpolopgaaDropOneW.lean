/- The walk of DropOne. No condition beyond rows within the reach. -/
import Derived.Test.YtkmjjckpolopgaaAl
import Derived.Test.YtkmjjckpolopgaaOneL
set_option linter.unusedSimpArgs false
set_option linter.unusedVariables false
namespace Go.Proofs.Ytkmjjckpolopgaa.dropOne
open Go.RowKit Go.Proofs.Ytkmjjckpolopgaa
theorem max2_run (a b : Int) (w : World) : (Builtin.max_ #[3, 3] 3 #[.int .i64 a, .int .i64 b]).run Try.prog w = .ok (.int .i64 (max a b)) w := by
  have h2 : ∀ (x y : Int) (w : World), (Builtin.max2 (.int .i64 x) (.int .i64 y)).run Try.prog w = .ok (.int .i64 (max x y)) w := fun x y w => by
    have e : (if x < y then y else x) = max x y := by split <;> omega
    simp [Builtin.max2, e]
  simp [Builtin.max_, List.foldlM, h2, Sem.run_bind, Result.andThen]
def castN (l : List Nat) : List Int := l.map fun (j : Nat) => (j : Int)
theorem castN_count (k : Nat) : ∀ l : List Nat, (castN l).count (k : Int) = l.count k
  | [] => rfl
  | x :: l => by
    have ih := castN_count k l
    unfold castN at ih ⊢
    simp only [List.map_cons, List.count_cons, ih]
    by_cases h : x = k
    · simp [h]
    · simp [h]; omega
theorem castN_get (l : List Nat) (d k : Nat) (h : l[d]? = some k) : (castN l).getD d 0 = (k : Int) := by
  unfold castN
  rw [List.getD_eq_getElem?_getD, List.getElem?_map, h]; rfl
set_option maxHeartbeats 1600000 in
theorem run (v : Value) (zs : List Int) (w : World) (h : Rd w v zs) :
    Calls Try.prog 5 #[v] w fun e w' => e = .returned (.bool true) ∧ Below w.heap.size w w' := by
  obtain ⟨i0, hi0, hz0, hz1, hz2⟩ := info_parts Try.info3
  have HR := Lib.hid h
  obtain ⟨a, cap, he1, hlc, hcm, hop⟩ := h.open
  obtain ⟨n, hn⟩ : ∃ n, zs.length = n := ⟨_, rfl⟩
  rw [hn] at he1 hop hlc
  obtain ⟨m, hm⟩ : ∃ m : Int, (n : Int) - 1 = m := ⟨_, rfl⟩
  have q0 : IntKind.i64.wrap ((n : Int) - 1) = m := by rw [IntKind.wrap_i64]; omega
  have HN := Lib.hid hn
  by_cases hok : OkD zs m
  · have HL := Lib.hid (fun w1 hb1 => lev_many_any v zs m w1 (HR.out.below (w' := w1) hb1 (Nat.le_refl _)) hok (by omega))
    have HON := Lib.hid (fun w1 hb1 d => one_any v zs d w1 (HR.out.below (w' := w1) hb1 (Nat.le_refl _)) (by rw [hn, hm]; exact hok))
    have hol := one_law (ws := zs) (by rw [hn, hm]; exact hok)
    rw [hn, hm] at HON hol
    obtain ⟨a1, a2, a3, a4, -⟩ := lev_law hok (by omega)
    obtain ⟨h1, h2, h3, h4⟩ := hok
    generalize (lev zs m).1 = N at *
    generalize (lev zs m).2 = D at *
    have HW := Lib.hid h4
    have HOP := Lib.hid hop
    unfold fr at HL
    rw [hn] at h1
    subst he1
    clear h hn hop h4
    by_cases hbig : N ≤ 600 ∧ n ≤ 8
    · obtain ⟨b1, b2⟩ := hbig
      have t1 : decide ((600 : Int) < N) = false := decide_eq_false (by omega)
      have t2 : decide ((8 : Int) < (n : Int)) = false := decide_eq_false (by omega)
      have HOL := Lib.hid hol
      obtain ⟨K, hK⟩ : ∃ K : Nat, N = (K : Int) := ⟨N.toNat, by omega⟩
      have HTL : Hid ((blk N D zs 0).length = K) := by show _ = _; omega
      have HBM : Hid (∀ d k, (blk N D zs 0)[d]? = some k → k < n) := fun d k hd => by
        have := blk_mem N D zs 0 k (List.mem_of_getElem? hd)
        rw [HN.out] at this; omega
      have HBC : Hid (∀ k, k < n → (((castN (blk N D zs 0)).count (k : Int) : Nat) : Int) = max (N - zs.getD k 0 * D) 0) := fun k hk => by
        have := blk_count N D zs 0 k (by rw [HN.out]; exact hk)
        rw [Nat.zero_add] at this
        rw [castN_count, this]
        unfold pt; omega
      have HO1 : Hid (∀ w1, Below w.heap.size w w1 → ∀ (d k : Nat), d ≤ 600 → (blk N D zs 0)[d]? = some k → Calls Try.prog 11 #[.slice a n cap, .int .i64 (d : Int)] w1 fun e w' => e = .returned (.tuple #[.int .i64 (k : Int), .int .i64 0]) ∧ Below w1.heap.size w1 w') := fun w1 hb d k hd he => by
        have := HON.out w1 hb (d : Int) ⟨by omega, by omega⟩
        rw [one_blk, he] at this
        exact this
      have HO2 : Hid (∀ w1, Below w.heap.size w w1 → Calls Try.prog 11 #[.slice a n cap, .int .i64 (K : Int)] w1 fun e w' => e = .returned (.tuple #[.int .i64 0, .int .i64 3]) ∧ Below w1.heap.size w1 w') := fun w1 hb => by
        have := HON.out w1 hb (K : Int) ⟨by omega, by omega⟩
        rw [one_blk, List.getElem?_eq_none (by rw [HTL.out]; exact Nat.le_refl _)] at this
        exact this
      generalize blk N D zs 0 = T at *
      subst hK
      clear hol HON
      go_enter Try.func5, Try.ntmps5
      go_wp2_with fail
      refine (alive_any w).mono ?_
      rintro e w1 ⟨rfl, hb1⟩
      have HB1 := Lib.hid hb1
      have HC := Lib.hid (HL.out w1 hb1)
      clear hb1
      go_wp2_with fail
      refine HC.out.mono ?_
      rintro e w2 ⟨rfl, hb2⟩
      obtain ⟨w3, hw3⟩ : ∃ X, w2.alloc (.cells #[.int .i64 (K : Int), .int .i64 D] 25) = X := ⟨_, rfl⟩
      have hb3 : Below w.heap.size w w3 := by rw [← hw3]; exact (HB1.out.trans (hb2.mono HB1.out.size)).alloc (by have := HB1.out.size; have := hb2.size; omega) _
      have HB3 := Lib.hid hb3
      have HK := Lib.hid (kept2 hw3)
      have HSZ : Hid (w2.heap.size + 1 = w3.heap.size) := by show _ = _; rw [← hw3]; simp
      have HW3 := Lib.hid hw3
      clear hb3 hb2 hw3 HC HL q0
      go_wp2_with (refine wpList_make_full _ rfl _ _ 22 rfl (w2.alloc (.cells #[.int .i64 (K : Int), .int .i64 D] 25)).heap.size 3 i0 (.int .i64 0) 1 Try.underlying22 hi0 hz0 hz1 .i64 .i64 _ _ n rfl rfl rfl rfl ?b2 ?b3 (Nat.le_refl _) ?_)
      case b2 => rw [hz2]; omega
      case b3 => unfold maxLen; omega
      intro w4 hown hgr
      rw [HW3.out] at hgr
      obtain ⟨g, hg⟩ : ∃ g, w2.heap.size + 1 = g := ⟨_, rfl⟩
      have HGE : Hid (w3.heap.size = g) := HSZ.out.symm.trans hg
      have hB4 : Below w3.heap.size w3 w4 := (Below.refl _ _).grown hgr (Nat.le_refl _) (fun k hk => by cases hk)
      have HB4 := Lib.hid hB4
      rw [zeros_eq, hg] at hown
      have HO4 : Hid (w4.ownsRow w3.heap.size 3 1 (.slice (some ⟨g, 0, none⟩) n n) n ((List.replicate n 0).map (Value.int .i64))) := by
        have := HGE.out
        rw [this]; exact hown
      obtain ⟨c0, c1⟩ := HK.out w4 hB4
      simp only [hg]
      obtain ⟨B, hB⟩ : ∃ B, w2.heap.size = B := ⟨_, rfl⟩
      rw [hB] at HK c0 c1 ⊢
      clear HW3 hB hown hB4 hgr HSZ hg
      go_wp2_with fail
      clear c0 c1 t1 t2
      go_loopw [40] (fun iv wr => ∃ (d : Nat) (c : List Int), d ≤ K ∧ iv = .int .i64 d ∧ Hid (Counts c (castN T) d n) ∧ Hid (wr.ownsRow w3.heap.size 3 1 (.slice (some ⟨g, 0, none⟩) n n) n (c.map (Value.int .i64))) ∧ Hid (Below w3.heap.size w3 wr)) (fun iv _ => K - (intOf iv).toNat)
      case atStart => exact ⟨0, _, Nat.zero_le _, rfl, Counts.zero _ _, HO4.out, HB4.out⟩
      case round =>
        clear HO4 HB4
        obtain ⟨d, c, hd, rfl, HCN, HO, HB⟩ := hrel
        by_cases hdk : d < K
        · obtain ⟨k, hk⟩ : ∃ k, T[d]? = some k := ⟨T[d]'(by rw [HTL.out]; exact hdk), List.getElem?_eq_getElem _⟩
          have hkn := HBM.out d k hk
          have HC := Lib.hid (HO1.out wr (HB3.out.trans (HB.out.mono HB3.out.size)) d k (by omega) hk)
          have hst := HCN.out.step (by unfold castN; rw [List.length_map, HTL.out]; exact hdk) (castN_get T d k hk) hkn
          have hbd := HCN.out.bd hkn
          have HST := Lib.hid hst
          have hTl : (castN T).length ≤ 600 := by unfold castN; rw [List.length_map, HTL.out]; omega
          clear hst hk
          go_wp2_with fail
          refine HC.out.mono ?_
          rintro e w5 ⟨rfl, hb5⟩
          have HO5 := Lib.hid (own_below HO.out hb5 (Nat.le_refl _))
          have HB5 := Lib.hid (HB.out.trans (hb5.mono HB.out.size))
          have c1 := own_get HO5.out k hkn
          have f1 : w5.frozen? ⟨g, k, none⟩ = false := HO5.out.frozenAt k
          have l5 := own_lt HO5.out
          obtain ⟨y, hy⟩ : ∃ y, c.getD k 0 = y := ⟨_, rfl⟩
          rw [hy] at c1 hbd HST
          obtain ⟨y', hy'⟩ : ∃ y', y + 1 = y' := ⟨_, rfl⟩
          rw [hy'] at HST
          have y1 : IntKind.i64.wrap (y + 1) = y' := by rw [IntKind.wrap_i64]; omega
          have HO6 := Lib.hid (own_set HO5.out k y')
          have HB6 : Hid (Below w3.heap.size w3 (w5.setCell ⟨g, k, none⟩ (.int .i64 y'))) := HB5.out.setCell (by exact l5.1) _
          have p1 : (0 ≤ (k : Int) ∧ (k : Int) < (n : Int)) = True := eq_true ⟨by omega, by omega⟩
          have t1 : decide ((k : Int) < 0) = false := decide_eq_false (by omega)
          have t2 : decide ((n : Int) ≤ (k : Int)) = false := decide_eq_false (by omega)
          have l5' := l5.2
          clear hb5 HO5 HB5 HO HB HC hbd hTl hy hy' l5 HCN
          go_wp2_with fail
          go_roundw
          case rel => exact ⟨d + 1, _, by omega, by go_num, HST.out, HO6.out, HB6.out⟩
          case measure => simp [intOf]; omega
        · obtain rfl : d = K := by omega
          have HCF : Hid (∀ k, k < n → c.getD k 0 = max ((d : Int) - zs.getD k 0 * D) 0) := fun k hk => by
            rw [HCN.out.2 k hk, ← HBC.out k hk, List.take_of_length_le (by unfold castN; rw [List.length_map, HTL.out]; exact Nat.le_refl _)]
          clear HCN
          go_wp2_with fail
          go_loopw [70] (fun iv w' => ∃ k : Nat, k ≤ n ∧ iv = .int .i64 k ∧ Hid (∃ q, w' = wr.drewN q)) (fun iv _ => n - (intOf iv).toNat)
          case atStart => exact ⟨0, Nat.zero_le _, rfl, ⟨0, rfl⟩⟩
          case round =>
            obtain ⟨k, hk, rfl, HWR⟩ := hrel
            obtain ⟨q, hq⟩ := HWR.out
            subst hq
            by_cases hkn : k < n
            · obtain ⟨b, off, rfl, hb, hc⟩ := HOP.out k hkn
              have d1 : wr.cell? ⟨b, off + k, none⟩ = some (.int .i64 (zs.getD k 0)) := (World.cell?_of_block ((HB3.out.trans (HB.out.mono HB3.out.size)).block b hb)).trans (hc k hkn)
              have d2 : wr.cell? ⟨g, k, none⟩ = some (.int .i64 (c.getD k 0)) := own_get HO.out k hkn
              obtain ⟨d3, d4⟩ := HK.out wr HB.out
              have hx := HW.out _ (getD_memI zs k (by rw [HN.out]; exact hkn))
              rw [HCF.out k hkn] at d2
              clear hc
              generalize zs.getD k 0 = x at *
              have hxb : 0 ≤ x * D ∧ x * D ≤ 1048576 * 400 := ⟨Int.mul_nonneg (by omega) (by omega), Int.mul_le_mul (by omega) (by omega) (by omega) (by omega)⟩
              obtain ⟨xd, hxd⟩ : ∃ z, x * D = z := ⟨_, rfl⟩
              rw [hxd] at hxb d2
              obtain ⟨p, hp⟩ : ∃ z, (d : Int) - xd = z := ⟨_, rfl⟩
              rw [hp] at d2
              have y1 : IntKind.i64.wrap (x * D) = xd := by rw [IntKind.wrap_i64, hxd]; omega
              have y2 : IntKind.i64.wrap ((d : Int) - xd) = p := by rw [IntKind.wrap_i64]; omega
              have emax := fun (w : World) => max2_run p 0 w
              obtain ⟨mx', hmx⟩ : ∃ z, max p 0 = z := ⟨_, rfl⟩
              rw [hmx] at emax d2
              have t1 : (mx' != mx') = false := by simp
              have p1 : (0 ≤ (k : Int) ∧ (k : Int) < (n : Int)) = True := eq_true ⟨by omega, by omega⟩
              clear hx hxb hxd hp hmx hb
              go_wp2_with fail
              go_region

              go_wp2_with fail
              go_roundw
              case rel => exact ⟨k + 1, by omega, by go_num, ⟨_, rfl⟩⟩
              case measure => simp [intOf]; omega
            · obtain rfl : k = n := by omega
              obtain ⟨d3, d4⟩ := HK.out (wr.drewN q) (HB.out.drewN q)
              have HBF := Lib.hid (HB3.out.trans ((HB.out.drewN q).mono HB3.out.size))
              have HC := Lib.hid (HO2.out (wr.drewN q) HBF.out)
              go_wp2_with fail
              refine HC.out.mono ?_
              rintro e w6 ⟨rfl, hb6⟩
              have HB6 := Lib.hid (HBF.out.trans (hb6.mono HBF.out.size))
              clear hb6
              go_wp2_with fail
              go_ret
              exact ⟨rfl, HB6.out⟩
    · have HT : Hid (decide ((600 : Int) < N) = true ∨ (decide ((600 : Int) < N) = false ∧ decide ((8 : Int) < (n : Int)) = true)) := by
        show _ ∨ _
        by_cases g : (600 : Int) < N
        · exact .inl (decide_eq_true g)
        · exact .inr ⟨decide_eq_false g, decide_eq_true (by omega)⟩
      clear hbig hol HON
      rcases HT.out with t1 | ⟨t1, t2⟩
      all_goals
        go_enter Try.func5, Try.ntmps5
        go_wp2_with fail
        refine (alive_any w).mono ?_
        rintro e w1 ⟨rfl, hb1⟩
        have HB1 := Lib.hid hb1
        have HC := Lib.hid (HL.out w1 hb1)
        clear hb1
        go_wp2_with fail
        refine HC.out.mono ?_
        rintro e w2 ⟨rfl, hb2⟩
        have HB2 := Lib.hid (HB1.out.trans (hb2.mono HB1.out.size))
        clear hb2 HC HL
        go_wp2_with fail
        go_ret
        exact ⟨rfl, HB2.out.alloc HB2.out.size _⟩
  · have HL := Lib.hid (fun w1 hb1 => lev_bad v zs m w1 (HR.out.below (w' := w1) hb1 (Nat.le_refl _)) hok)
    unfold fr at HL
    subst he1
    clear h hn hop hok
    go_enter Try.func5, Try.ntmps5
    go_wp2_with fail
    refine (alive_any w).mono ?_
    rintro e w1 ⟨rfl, hb1⟩
    have HB1 := Lib.hid hb1
    have HC := Lib.hid (HL.out w1 hb1)
    clear hb1
    go_wp2_with fail
    refine HC.out.mono ?_
    rintro e w2 ⟨rfl, hb2⟩
    have HB2 := Lib.hid (HB1.out.trans (hb2.mono HB1.out.size))
    clear hb2 HC HL
    go_wp2_with fail
    go_ret
    exact ⟨rfl, HB2.out.alloc HB2.out.size _⟩
theorem walk (a0 : Option Addr) (len0 cap0 : Nat) (z0 : List Int) (w : World) (w0 : IsRow .i64 w a0 len0 cap0 z0) :
    Calls Try.prog 5 #[.slice a0 len0 cap0] w fun e w' => e = .returned (.bool true) ∧ Below w.heap.size w w' := by
  obtain ⟨h1, -⟩ := w0.rd
  exact run _ _ w h1
end Go.Proofs.Ytkmjjckpolopgaa.dropOne
