/- lfsr.Jump: what it answers. No condition. -/
import Derived.Test.YtfjeabfjghabhaaPer
import Derived.RegionTactic
set_option linter.unusedSimpArgs false
set_option linter.unusedVariables false
namespace Go.Proofs.Ytfjeabfjghabhaa
open Go.RowKit
theorem Try.info22t : (Try.prog.info? 22).map (fun i => (i.zero, i.size, i.bytes)) = some (some (.int .u32 0), 1, 4) := by kernel_rfl
def tabU (n : Nat) (f : Nat → Nat) : List Int := (List.range n).map fun d => (f d : Int)
theorem tabU_len (n : Nat) (f : Nat → Nat) : (tabU n f).length = n := by simp [tabU]
theorem tabU_get (n : Nat) (f : Nat → Nat) (d : Nat) (h : d < n) : (tabU n f).getD d 0 = f d := by
  simp [tabU, List.getD_eq_getElem?_getD, List.getElem?_map, List.getElem?_range, h]
theorem zeros_tabU (n : Nat) : List.replicate n (0 : Int) = tabU n (fun _ => 0) := by
  apply List.ext_getElem (by simp [tabU])
  intro i h1 h2; simp [tabU]
theorem tabU_set (n : Nat) (f : Nat → Nat) (j : Nat) (x : Nat) : (tabU n f).set j (x : Int) = tabU n (fun d => if d = j then x else f d) := by
  apply List.ext_getElem (by simp [tabU])
  intro i h1 h2
  simp only [tabU, List.getElem_set, List.getElem_map, List.getElem_range]
  by_cases h : j = i
  · subst h; simp
  · rw [if_neg h, if_neg (fun e => h e.symm)]
theorem tabU_congr {n : Nat} {f g : Nat → Nat} (h : ∀ d, d < n → f d = g d) : tabU n f = tabU n g := by
  unfold tabU
  apply List.map_congr_left
  intro d hd; rw [h d (List.mem_range.1 hd)]
/-- A row of words of the call's own. -/
def OU (w : World) (base g n : Nat) (f : Nat → Nat) : Prop := w.ownsRow base 22 1 (.slice (some ⟨g, 0, none⟩) n n) n ((tabU n f).map (Value.int .u32))
theorem OU.get {w : World} {base g n : Nat} {f : Nat → Nat} (h : OU w base g n f) (j : Nat) (hj : j < n) : w.cell? ⟨g, j, none⟩ = some (.int .u32 (f j : Nat)) := by
  have := own_get h j hj
  rwa [tabU_get _ _ _ hj] at this
theorem OU.frozen {w : World} {base g n : Nat} {f : Nat → Nat} (h : OU w base g n f) (j : Nat) : w.frozen? ⟨g, j, none⟩ = false := World.ownsRow.frozenAt h j
theorem OU.set {w : World} {base g n : Nat} {f : Nat → Nat} (h : OU w base g n f) (j x : Nat) : OU (w.setCell ⟨g, j, none⟩ (.int .u32 (x : Int))) base g n (fun i => if i = j then x else f i) := by
  have := own_set h j (x : Int)
  rwa [tabU_set] at this
theorem OU.congr {w : World} {base g n : Nat} {f f' : Nat → Nat} (h : OU w base g n f) (he : ∀ i, i < n → f i = f' i) : OU w base g n f' := by
  unfold OU at h ⊢
  rwa [tabU_congr he] at h
theorem OU.ru {w : World} {base g n : Nat} {f : Nat → Nat} (h : OU w base g n f) : RU w g n f := ⟨(own_lt h).2, fun i hi => h.get i hi⟩
theorem OU.made {w : World} {base g n : Nat} (h : w.ownsRow base 22 1 (.slice (some ⟨g, 0, none⟩) n n) n (madeCells #[Value.int .u32 0] n).toList) : OU w base g n (fun _ => 0) := by
  rw [zeros_eq, zeros_tabU] at h; exact h
theorem OU.drewN {w : World} {base g n : Nat} {f : Nat → Nat} (h : OU w base g n f) (q : Nat) : OU (w.drewN q) base g n f := h
theorem step_if {i y : Nat} {F : Nat → Nat} {G : Nat → Nat} (hy : F i = y) (k : Nat) : (if k = i then y else if k < i then F k else G k) = if k < i + 1 then F k else G k := by
  by_cases e : k = i
  · subst e; rw [if_pos rfl, if_pos (by omega), hy]
  · rw [if_neg e]
    by_cases e2 : k < i
    · rw [if_pos e2, if_pos (by omega)]
    · rw [if_neg e2, if_neg (by omega)]
theorem jump_bad (n : Int) (t s : Nat) (b : Int) (h : ¬ (OkT n t ∧ s / 2 ^ n.toNat = 0)) (w : World) : Calls Try.prog 8 #[.int .i64 n, .int .u32 t, .int .u32 s, .int .i64 b] w fun e w' => e = .returned (.tuple #[.int .u32 0, .int .i64 1]) ∧ w' = w := by
  by_cases hk : OkT n t
  · have hs : s / 2 ^ n.toNat ≠ 0 := fun e => h ⟨hk, e⟩
    have hn : 1 ≤ n := hk.1
    have hn2 : n ≤ 20 := hk.2.1
    have d1 := div_int s n.toNat
    have HR := Lib.hid (right_any n t)
    rw [decide_eq_true hk] at HR
    generalize s / 2 ^ n.toNat = a at *
    have f1 : ((a : Int) == 0) = false := by rw [beq_eq_false_iff_ne]; omega
    have f2 : ((a : Int) != 0) = true := by rw [bne, f1]; rfl
    clear h hk
    go_enter Try.func8, Try.ntmps8
    go_wp2_with fail
    refine (HR.out _).mono ?_
    rintro e w1 ⟨rfl, rfl⟩
    go_wp2_with fail
    go_ret2
    exact ⟨rfl, rfl⟩
  · have HR := Lib.hid (right_any n t)
    rw [decide_eq_false hk] at HR
    clear h hk
    go_enter Try.func8, Try.ntmps8
    go_wp2_with fail
    refine (HR.out _).mono ?_
    rintro e w1 ⟨rfl, rfl⟩
    go_wp2_with fail
    go_ret2
    exact ⟨rfl, rfl⟩
theorem jump_far (n t s : Nat) (b : Int) (hk : OkT n t) (hs : s < 2 ^ n) (hb : b < 0 ∨ 1099511627776 < b) (w : World) : Calls Try.prog 8 #[.int .i64 n, .int .u32 t, .int .u32 s, .int .i64 b] w fun e w' => e = .returned (.tuple #[.int .u32 0, .int .i64 2]) ∧ w' = w := by
  obtain ⟨hn1, hn2, -, hP, -, -⟩ := hk.two
  have HR := Lib.hid (right_any n t)
  rw [decide_eq_true hk] at HR
  have d1 : (s : Int) / 2 ^ n = 0 := by rw [div_int, Nat.div_eq_of_lt hs]; rfl
  clear hk hs hP
  rcases hb with hb | hb
  · have f1 : decide (b < 0) = true := decide_eq_true hb
    go_enter Try.func8, Try.ntmps8
    go_wp2_with fail
    refine (HR.out _).mono ?_
    rintro e w1 ⟨rfl, rfl⟩
    go_wp2_with fail
    go_ret2
    exact ⟨rfl, rfl⟩
  · have f1 : decide (b < 0) = false := decide_eq_false (by omega)
    have f2 : decide (1099511627776 < b) = true := decide_eq_true hb
    go_enter Try.func8, Try.ntmps8
    go_wp2_with fail
    refine (HR.out _).mono ?_
    rintro e w1 ⟨rfl, rfl⟩
    go_wp2_with fail
    go_ret2
    exact ⟨rfl, rfl⟩
set_option maxHeartbeats 1600000 in
set_option maxRecDepth 20000 in
theorem jump_ok (n t s b : Nat) (hk : OkT n t) (hs : s < 2 ^ n) (hb : b ≤ 1099511627776) (w : World) : Calls Try.prog 8 #[.int .i64 n, .int .u32 t, .int .u32 s, .int .i64 b] w fun e w' => e = .returned (.tuple #[.int .u32 (it n t b s : Nat), .int .i64 0]) ∧ Below w.heap.size w w' := by
  obtain ⟨i22, hinfo, hz0, hz1, hz2⟩ := info_parts Try.info22t
  obtain ⟨hn1, hn2, -, hP, -, -⟩ := hk.two
  have HR := Lib.hid (right_any n t)
  rw [decide_eq_true hk] at HR
  have d1 : (s : Int) / 2 ^ n = 0 := by rw [div_int, Nat.div_eq_of_lt hs]; rfl
  have HS := Lib.hid (fun k (hk' : k < n) w => step_ok n t (2 ^ k) hk (Nat.pow_lt_pow_right (by omega) hk') w)
  have HP2 := Lib.hid hP
  have HSL := Lib.hid hs
  have bm : n ≤ maxLen := by unfold maxLen; omega
  have b22 : i22.bytes * n ≤ 281474976710656 := by rw [hz2]; omega
  have f1 : decide ((b : Int) < 0) = false := decide_eq_false (by omega)
  have f2 : decide ((1099511627776 : Int) < (b : Int)) = false := decide_eq_false (by omega)
  clear hP hs
  go_enter Try.func8, Try.ntmps8
  go_wp2_with fail
  refine (HR.out _).mono ?_
  rintro e w1 ⟨rfl, rfl⟩
  go_wp2_with (refine wpList_make_full _ rfl _ _ 31 rfl w1.heap.size 22 i22 (.int .u32 0) 1 Try.underlying31 hinfo hz0 hz1 .i64 .i64 _ _ n rfl rfl ?hL ?hC b22 bm (Nat.le_refl _) ?_)
  case hL => simp
  case hC => simp
  intro w2 hown hgr
  have HB2 := Lib.hid ((Below.refl w1.heap.size w1).grown hgr (Nat.le_refl _) (fun k hk => by cases hk))
  have HO2 := Lib.hid (OU.made (g := w1.heap.size) hown)
  clear hown hgr f1 f2 d1
  obtain ⟨g, hg⟩ : ∃ g, w1.heap.size = g := ⟨_, rfl⟩
  have HG := Lib.hid hg
  rw [hg] at HO2 HB2 ⊢
  clear hg
  go_wp2_with fail
  go_loopw [37, 11] (fun kv _ wr => ∃ k : Nat, k ≤ n ∧ kv = .int .i64 k ∧ Below g w1 wr ∧ OU wr g g n (fun i => if i < k then it n t 1 (2 ^ i) else 0)) (fun kv _ _ => n - (intOf kv).toNat)
  case atStart => exact ⟨0, Nat.zero_le _, rfl, HB2.out, HO2.out.congr (fun i _ => by rw [if_neg (by omega)])⟩
  case round =>
    clear HB2 HO2
    obtain ⟨k, hk', rfl, hbel, ho⟩ := hrel
    have HBE := Lib.hid hbel
    have HO := Lib.hid ho
    clear hbel ho
    by_cases hlt : k < n
    · have HSK := Lib.hid (HS.out k hlt)
      have hw : (2 : Int) ^ k = ((2 ^ k : Nat) : Int) := by rw [Int.natCast_pow]; rfl
      have hx : 2 ^ k ≤ 1048576 := Nat.le_trans (Nat.pow_le_pow_right (by omega) (by omega)) HP2.out
      have HX : Hid (it n t 1 (2 ^ k) = stp n t (2 ^ k)) := rfl
      have HK : Hid (∀ y, y = stp n t (2 ^ k) → it n t 1 (2 ^ k) = y) := fun y h => h.symm
      obtain ⟨y, hy⟩ : ∃ y, stp n t (2 ^ k) = y := ⟨_, rfl⟩
      rw [hy] at HSK HX
      have hyl : y < 1048576 := by have := stp_lt n t (2 ^ k); rw [hy] at this; have := HP2.out; omega
      have f1 := HO.out.frozen k
      have c1 := HO.out.get k hlt
      have HST := Lib.hid (HO.out.set k y)
      clear hy HK
      obtain ⟨x, hxx⟩ : ∃ x, 2 ^ k = x := ⟨_, rfl⟩
      rw [hxx] at hw hx HSK
      clear hxx
      go_wp2_with fail
      refine (HSK.out _).mono ?_
      rintro e w3 ⟨rfl, q, rfl⟩
      go_wp2_with fail
      exact ⟨⟨k + 1, by omega, by go_num, HBE.out.drewN q |>.setCell (Nat.le_refl _) _, (HST.out.drewN q).congr (fun i _ => step_if (F := fun i => it n t 1 (2 ^ i)) (G := fun _ => 0) HX.out i)⟩, by simp [intOf]; omega⟩
    · obtain rfl : k = n := by omega
      have HO3 := Lib.hid (HO.out.congr (f' := fun i => it k t 1 (2 ^ i)) (fun i hi => by rw [if_pos hi]))
      clear HO HS
      go_wp2_with fail
      go_loopw [3, 2, 10, 13, 14] (fun bv sv cv _ _ wr => ∃ (bb st g1 m : Nat) (f : Nat → Nat), bv = .int .i64 bb ∧ sv = .int .u32 st ∧ cv = .slice (some ⟨g1, 0, none⟩) k k ∧ Below g w1 wr ∧ RU wr g1 k f ∧ Hid (st < 2 ^ k) ∧ Hid (∀ i, i < k → f i = it k t m (2 ^ i)) ∧ Hid (it k t (m * bb) st = it k t b s ∧ bb ≤ b)) (fun bv _ _ _ _ _ => (intOf bv).toNat)
      case atStart => exact ⟨b, s, g, 1, _, rfl, rfl, rfl, HBE.out, HO3.out.ru, HSL, fun i _ => rfl, by rw [Nat.one_mul], Nat.le_refl _⟩
      case round =>
        clear HBE HO3 HSL
        obtain ⟨bb, st, g1, m, f, rfl, rfl, rfl, hbel, hru, HSTL, HF, HT⟩ := hrel
        have HBE := Lib.hid hbel
        have HRU := Lib.hid hru
        have hbb := HT.out.2
        have HFL : Hid (∀ i, i < k → f i < 1048576) := fun i hi => by
          have := it_lt (n := k) (t := t) (s := 2 ^ i) (Nat.pow_lt_pow_right (by omega) hi) m
          rw [← HF.out i hi] at this
          have := HP2.out; omega
        clear hbel hru
        rcases (show bb = 0 ∨ (∃ c, bb = 2 * c + 1) ∨ ∃ c, bb = 2 * c + 2 by
          rcases Nat.eq_zero_or_pos bb with h | h
          · exact .inl h
          · right
            rcases Nat.mod_two_eq_zero_or_one bb with h2 | h2
            · exact .inr ⟨bb / 2 - 1, by omega⟩
            · exact .inl ⟨bb / 2, by omega⟩) with rfl | ⟨c, rfl⟩ | ⟨c, rfl⟩
        · have HE : Hid (st = it k t b s) := by show _ = _; rw [← HT.out.1, Nat.mul_zero]; rfl
          clear HT HRU HF HFL
          go_wp2_with fail
          go_ret2
          exact ⟨by rw [HE.out]; rfl, by rw [HG.out]; exact HBE.out⟩
        · have hstl : st < 1048576 := by have := HSTL.out; have := HP2.out; omega
          have HAL := Lib.hid (all_ok g1 k st f hn2 hstl HFL.out _ HRU.out)
          have hy : app f st k = it k t m st := by rw [app_congr HF.out, app_it _ _ _ _ HSTL.out]
          have HSTL2 : Hid (app f st k < 2 ^ k) := by show _ < _; rw [hy]; exact it_lt HSTL.out m
          have HTG : Hid (it k t (2 * m * c) (app f st k) = it k t b s ∧ c ≤ b) := ⟨by
            rw [hy, ← it_add, ← HT.out.1]; congr 1; rw [Nat.mul_add, Nat.mul_one, Nat.mul_comm 2 m, Nat.mul_assoc], by omega⟩
          have f1 : ((2 * (c : Int) + 1) % 2 == 1) = true := by rw [beq_iff_eq]; omega
          have f2 : (2 * (c : Int) + 1).tmod 2 = 1 := by rw [Int.tmod_eq_emod_of_nonneg (by omega)]; omega
          have f3 : (2 * (c : Int) + 1).tdiv 2 = c := by rw [Int.tdiv_eq_ediv_of_nonneg (by omega)]; omega
          have f4 : (2 * (c : Int) + 1) / 2 = c := by omega
          have f5 : (2 * (c : Int) + 1) % 2 = 1 := by omega
          clear hy HT
          generalize app f st k = y at *
          go_wp2_with fail
          refine HAL.out.mono ?_
          rintro e wr ⟨rfl, rfl⟩
          go_wp2_with (refine wpList_make_full _ rfl _ _ 31 rfl wr.heap.size 22 i22 (.int .u32 0) 1 Try.underlying31 hinfo hz0 hz1 .i64 .i64 _ _ k rfl rfl ?hL2 ?hC2 b22 bm (Nat.le_refl _) ?_)
          case hL2 => simp
          case hC2 => simp
          intro w4 hown hgr
          have HB4 := Lib.hid ((Below.refl wr.heap.size wr).grown hgr (Nat.le_refl _) (fun k hk => by cases hk))
          have HO4 := Lib.hid (OU.made (g := wr.heap.size) hown)
          have HGG := Lib.hid (HBE.out.size)
          clear hown hgr
          obtain ⟨wo, hwo⟩ : ∃ wo, wr = wo := ⟨_, rfl⟩
          subst hwo
          obtain ⟨g2, hg2⟩ : ∃ g2, wr.heap.size = g2 := ⟨_, rfl⟩
          have HG2 := Lib.hid hg2
          rw [hg2] at HO4 HB4 ⊢
          clear hg2
          go_wp2_with fail
          go_loopw [67, 14] (fun jv _ wq => ∃ j : Nat, j ≤ k ∧ jv = .int .i64 j ∧ Below g2 wr wq ∧ OU wq g2 g2 k (fun i => if i < j then it k t (2 * m) (2 ^ i) else 0)) (fun jv _ _ => k - (intOf jv).toNat)
          case atStart => exact ⟨0, Nat.zero_le _, rfl, HB4.out, HO4.out.congr (fun i _ => by rw [if_neg (by omega)])⟩
          case round =>
            clear HB4 HO4
            obtain ⟨j, hj, rfl, hbel, ho⟩ := hrel
            have HBJ := Lib.hid hbel
            have HOJ := Lib.hid ho
            have HRJ := Lib.hid (HRU.out.below hbel (by rw [HG2.out]; exact Nat.le_refl _))
            clear hbel ho
            by_cases hlj : j < k
            · have hx : f j < 1048576 := by have := it_lt (n := k) (t := t) (s := 2 ^ j) (Nat.pow_lt_pow_right (by omega) hlj) m; rw [← HF.out j hlj] at this; have := HP2.out; omega
              have HAL := Lib.hid (all_ok g1 k (f j) f hn2 hx HFL.out _ HRJ.out)
              have hy : app f (f j) k = it k t (2 * m) (2 ^ j) := by
                rw [app_congr HF.out, HF.out j hlj, app_it _ _ _ _ (it_lt (Nat.pow_lt_pow_right (by omega) hlj) m), ← it_add, show m + m = 2 * m by omega]
              have hyl : app f (f j) k < 1048576 := by
                rw [hy]
                have := it_lt (n := k) (t := t) (s := 2 ^ j) (Nat.pow_lt_pow_right (by omega) hlj) (2 * m)
                have := HP2.out; omega
              have c0 := HRJ.out.2 j hlj
              have f1 := HOJ.out.frozen j
              have c1 := HOJ.out.get j hlj
              have HST := Lib.hid (HOJ.out.set j (app f (f j) k))
              have HY := Lib.hid hy
              clear hy
              generalize app f (f j) k = y at *
              generalize f j = x at *
              go_wp2_with fail
              refine HAL.out.mono ?_
              rintro e w6 ⟨rfl, rfl⟩
              go_wp2_with fail
              exact ⟨⟨j + 1, by omega, by go_num, HBJ.out.setCell (Nat.le_refl _) _, HST.out.congr (fun i _ => step_if (F := fun i => it k t (2 * m) (2 ^ i)) (G := fun _ => 0) HY.out.symm i)⟩, by simp [intOf]; omega⟩
            · obtain rfl : j = k := by omega
              have HN := Lib.hid (HOJ.out.congr (f' := fun i => it j t (2 * m) (2 ^ i)) (fun i hi => by rw [if_pos hi])).ru
              go_wp2_with fail
              exact ⟨⟨c, y, g2, 2 * m, _, by go_num, rfl, rfl, HBE.out.trans (HBJ.out.mono (by rw [← HG2.out, ← HG.out]; exact HGG.out)), HN.out, HSTL2, fun i _ => rfl, HTG⟩, by simp [intOf]; omega⟩
        · have HTG : Hid (it k t (2 * m * (c + 1)) st = it k t b s ∧ c + 1 ≤ b) := ⟨by
            rw [← HT.out.1]; congr 1; rw [show 2 * c + 2 = 2 * (c + 1) by omega, Nat.mul_comm 2 m, Nat.mul_assoc], by omega⟩
          have f1 : ((2 * (c : Int) + 2) % 2 == 1) = false := by rw [beq_eq_false_iff_ne]; omega
          have f2 : (2 * (c : Int) + 2).tmod 2 = 0 := by rw [Int.tmod_eq_emod_of_nonneg (by omega)]; omega
          have f3 : (2 * (c : Int) + 2).tdiv 2 = (c : Int) + 1 := by rw [Int.tdiv_eq_ediv_of_nonneg (by omega)]; omega
          have f4 : (2 * (c : Int) + 2) / 2 = (c : Int) + 1 := by omega
          have f5 : (2 * (c : Int) + 2) % 2 = 0 := by omega
          clear HT
          go_wp2_with (refine wpList_make_full _ rfl _ _ 31 rfl wr.heap.size 22 i22 (.int .u32 0) 1 Try.underlying31 hinfo hz0 hz1 .i64 .i64 _ _ k rfl rfl ?hL2 ?hC2 b22 bm (Nat.le_refl _) ?_)
          case hL2 => simp
          case hC2 => simp
          intro w4 hown hgr
          have HB4 := Lib.hid ((Below.refl wr.heap.size wr).grown hgr (Nat.le_refl _) (fun k hk => by cases hk))
          have HO4 := Lib.hid (OU.made (g := wr.heap.size) hown)
          have HGG := Lib.hid (HBE.out.size)
          clear hown hgr
          obtain ⟨wo, hwo⟩ : ∃ wo, wr = wo := ⟨_, rfl⟩
          subst hwo
          obtain ⟨g2, hg2⟩ : ∃ g2, wr.heap.size = g2 := ⟨_, rfl⟩
          have HG2 := Lib.hid hg2
          rw [hg2] at HO4 HB4 ⊢
          clear hg2
          go_wp2_with fail
          go_loopw [67, 14] (fun jv _ wq => ∃ j : Nat, j ≤ k ∧ jv = .int .i64 j ∧ Below g2 wr wq ∧ OU wq g2 g2 k (fun i => if i < j then it k t (2 * m) (2 ^ i) else 0)) (fun jv _ _ => k - (intOf jv).toNat)
          case atStart => exact ⟨0, Nat.zero_le _, rfl, HB4.out, HO4.out.congr (fun i _ => by rw [if_neg (by omega)])⟩
          case round =>
            clear HB4 HO4
            obtain ⟨j, hj, rfl, hbel, ho⟩ := hrel
            have HBJ := Lib.hid hbel
            have HOJ := Lib.hid ho
            have HRJ := Lib.hid (HRU.out.below hbel (by rw [HG2.out]; exact Nat.le_refl _))
            clear hbel ho
            by_cases hlj : j < k
            · have hx : f j < 1048576 := by have := it_lt (n := k) (t := t) (s := 2 ^ j) (Nat.pow_lt_pow_right (by omega) hlj) m; rw [← HF.out j hlj] at this; have := HP2.out; omega
              have HAL := Lib.hid (all_ok g1 k (f j) f hn2 hx HFL.out _ HRJ.out)
              have hy : app f (f j) k = it k t (2 * m) (2 ^ j) := by
                rw [app_congr HF.out, HF.out j hlj, app_it _ _ _ _ (it_lt (Nat.pow_lt_pow_right (by omega) hlj) m), ← it_add, show m + m = 2 * m by omega]
              have hyl : app f (f j) k < 1048576 := by
                rw [hy]
                have := it_lt (n := k) (t := t) (s := 2 ^ j) (Nat.pow_lt_pow_right (by omega) hlj) (2 * m)
                have := HP2.out; omega
              have c0 := HRJ.out.2 j hlj
              have f1 := HOJ.out.frozen j
              have c1 := HOJ.out.get j hlj
              have HST := Lib.hid (HOJ.out.set j (app f (f j) k))
              have HY := Lib.hid hy
              clear hy
              generalize app f (f j) k = y at *
              generalize f j = x at *
              go_wp2_with fail
              refine HAL.out.mono ?_
              rintro e w6 ⟨rfl, rfl⟩
              go_wp2_with fail
              exact ⟨⟨j + 1, by omega, by go_num, HBJ.out.setCell (Nat.le_refl _) _, HST.out.congr (fun i _ => step_if (F := fun i => it k t (2 * m) (2 ^ i)) (G := fun _ => 0) HY.out.symm i)⟩, by simp [intOf]; omega⟩
            · obtain rfl : j = k := by omega
              have HN := Lib.hid (HOJ.out.congr (f' := fun i => it j t (2 * m) (2 ^ i)) (fun i hi => by rw [if_pos hi])).ru
              go_wp2_with fail
              exact ⟨⟨c + 1, st, g2, 2 * m, _, by go_num, rfl, rfl, HBE.out.trans (HBJ.out.mono (by rw [← HG2.out, ← HG.out]; exact HGG.out)), HN.out, HSTL, fun i _ => rfl, HTG⟩, by simp [intOf]; omega⟩
end Go.Proofs.Ytfjeabfjghabhaa
