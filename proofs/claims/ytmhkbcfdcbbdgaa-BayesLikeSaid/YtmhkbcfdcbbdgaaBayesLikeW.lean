/- The walk of BayesLike. No condition. -/
import Derived.Test.YtmhkbcfdcbbdgaaLaw
import Derived.Test.YtmhkbcfdcbbdgaaEqualQ
import Derived.Deep.RegionWith
set_option linter.unusedSimpArgs false
set_option linter.unusedVariables false
namespace Go.Proofs.Ytmhkbcfdcbbdgaa.bayesLike
open Go.RowKit Go.Proofs.Ytmhkbcfdcbbdgaa
theorem prd_same {zss : List (List Int)} {i j : Nat} (h : zss.getD i [] = zss.getD j []) : ∀ ns : List Int, prd zss i ns = prd zss j ns
  | [] => rfl
  | s :: ns => by rw [prd, prd, prd_same h ns]; unfold sg; rw [h]
theorem cross {a b P G ti tj : Nat} (hG : 0 < G) (e1 : a * P = G * ti) (e2 : b * P = G * tj) : ti * b = tj * a := by
  refine Nat.eq_of_mul_eq_mul_left hG ?_
  rw [← Nat.mul_assoc, ← e1, ← Nat.mul_assoc, ← e2]
  simp only [Nat.mul_comm, Nat.mul_left_comm]
theorem like (zs : List Int) (zss : List (List Int)) (ns : List Int) {i j : Nat} (hi : i < zs.length) (hj : j < zs.length) (h : zss.getD i [] = zss.getD j []) : seeT zs zss ns i * nd zs j = seeT zs zss ns j * nd zs i := by
  rw [seeT_eq _ _ _ hi, seeT_eq _ _ _ hj]
  have e1 := lw_eq (fun k => nd zs k * prd zss k ns) hi
  have e2 := lw_eq (fun k => nd zs k * prd zss k ns) hj
  rw [prd_same h] at e1
  rcases Nat.eq_zero_or_pos (gcdN (fun k => nd zs k * prd zss k ns) zs.length) with e | e
  · rw [show lw (fun k => nd zs k * prd zss k ns) zs.length i = 0 by unfold lw; rw [e, Nat.div_zero], show lw (fun k => nd zs k * prd zss k ns) zs.length j = 0 by unfold lw; rw [e, Nat.div_zero]]
    omega
  · exact cross e e1 e2
set_option maxHeartbeats 1600000 in
theorem walk_any (v v2 v3 : Value) (zs : List Int) (zss : List (List Int)) (ns : List Int) (w : World) (h : Rd w v zs) (h2 : RdM w v2 zss) (h3 : Rd w v3 ns) :
    Calls Try.prog 4 #[v, v2, v3] w fun e w' => e = .returned (.bool true) ∧ Below w.heap.size w w' := by
  have HS := Lib.hid (fun w h h2 h3 => see_any v v2 v3 zs zss ns w h h2 h3)
  have HR := Lib.hid h
  have HR2 := Lib.hid h2
  have HR3 := Lib.hid h3
  obtain ⟨a, cap, rfl, hlc, hcm, hop⟩ := h.open
  obtain ⟨a2, cap2, rfl, hlc2, hcm2, hop2⟩ := h2.open
  have HOP := Lib.hid hop
  have HOP2 := Lib.hid hop2
  clear h h2 h3 hop hop2
  go_enter Try.func4, Try.ntmps4
  go_wp2_with fail
  refine (alive_any _).mono ?_
  rintro e w1 ⟨rfl, hb1⟩
  have HB1 := Lib.hid hb1
  have HA1 := Lib.hid (HR.out.below hb1 (Nat.le_refl _))
  have HA2 := Lib.hid (HR2.out.below hb1 (Nat.le_refl _))
  have HA3 := Lib.hid (HR3.out.below hb1 (Nat.le_refl _))
  clear hb1
  go_wp2_with fail
  refine (HS.out _ HA1.out HA2.out HA3.out).mono ?_
  rintro e w2 ⟨hb2, hp⟩
  have HB2 := Lib.hid (HB1.out.trans (hb2.mono HB1.out.size))
  clear hb2
  by_cases he : seeE zs zss ns = 0
  · obtain ⟨hok, hl12, hseen⟩ := seeE_cases _ _ _ he
    obtain ⟨u, rfl, hu⟩ := hp.2 he
    have HOK := Lib.hid hok
    obtain ⟨hl1, hn1, hn2, -⟩ := hok
    have HTL := Lib.hid (fun k hk => seeT_le zs zss ns HOK.out hl12 (k := k) hk)
    have HND := Lib.hid (nd_le HOK.out)
    have HLK := Lib.hid (fun i j hi hj h => like zs zss ns (i := i) (j := j) hi hj h)
    have HN : Hid (∀ k, k < zs.length → zs.getD k 0 = (nd zs k : Int)) := fun k hk => by have := (HOK.out.2.2.2 k hk).1; unfold nd; omega
    obtain ⟨b, off, rfl, hbl, hc⟩ := HOP.out 0 (by omega)
    rw [← hl1] at HOP2 hlc2 ⊢
    obtain ⟨b2, off2, U, rfl, hbl2, hc2⟩ := HOP2.out (by omega)
    have HC := Lib.hid hc
    have HC2 := Lib.hid hc2
    obtain ⟨au, cu, rfl, hlu, hcu, hopu⟩ := hu.open
    rw [tabI_len] at hlu hopu ⊢
    obtain ⟨bu, ou, rfl, hblu, hccu⟩ := hopu 0 (by omega)
    have HCU := Lib.hid hccu
    clear hu hopu hccu hc hc2 hseen hp he HS
    generalize hT : seeT zs zss ns = T at *
    clear hT
    generalize hn : zs.length = n at *
    clear hn
    go_wp2_with fail
    go_loopw [33, 9, 10] (fun iv _ _ wr => ∃ i : Nat, i ≤ n ∧ iv = .int .i64 i ∧ Hid (∃ q, wr = w2.drewN q)) (fun iv _ _ _ => n - (intOf iv).toNat)
    case atStart => exact ⟨0, Nat.zero_le _, rfl, 0, rfl⟩
    case round =>
      obtain ⟨i, hi, rfl, hq⟩ := hrel
      by_cases hlt : i < n
      · have ri := (HC2.out i hlt).2.below HB2.out (Nat.le_refl _)
        have HRI := Lib.hid ri
        clear ri
        go_wp2_with fail
        go_loopw [38, 10] (fun jv _ wr => ∃ j : Nat, j ≤ n ∧ jv = .int .i64 j ∧ Hid (∃ q, wr = w2.drewN q)) (fun jv _ _ => n - (intOf jv).toNat)
        case atStart => exact ⟨0, Nat.zero_le _, rfl, hq⟩
        case round =>
          clear hq
          rename_i wr0 _ _ _
          obtain ⟨j, hj, rfl, hq⟩ := hrel
          by_cases hlj : j < n
          · have rj := (HC2.out j hlj).2.below HB2.out (Nat.le_refl _)
            have HRJ := Lib.hid rj
            clear rj
            have hmul := Nat.mul_le_mul (HTL.out i hlt) (HND.out j)
            have ci : wr.cell? ⟨bu, ou + i, none⟩ = some (.int .i64 (T i : Nat)) := by
              obtain ⟨q, rfl⟩ := hq.out
              have := HCU.out i hlt
              rw [tabI_get _ _ _ hlt] at this
              exact this
            have cj : wr.cell? ⟨bu, ou + j, none⟩ = some (.int .i64 (T j : Nat)) := by
              obtain ⟨q, rfl⟩ := hq.out
              have := HCU.out j hlj
              rw [tabI_get _ _ _ hlj] at this
              exact this
            have pi : wr.cell? ⟨b, off + i, none⟩ = some (.int .i64 (nd zs i : Nat)) := by
              obtain ⟨q, rfl⟩ := hq.out
              have := (World.cell?_of_block (HB2.out.block b hbl)).trans (HC.out i hlt)
              rw [HN.out i hlt] at this
              exact this
            have pj : wr.cell? ⟨b, off + j, none⟩ = some (.int .i64 (nd zs j : Nat)) := by
              obtain ⟨q, rfl⟩ := hq.out
              have := (World.cell?_of_block (HB2.out.block b hbl)).trans (HC.out j hlj)
              rw [HN.out j hlj] at this
              exact this
            have di : wr.cell? ⟨b2, off2 + i, none⟩ = some (U i) := by
              obtain ⟨q, rfl⟩ := hq.out
              exact (World.cell?_of_block (HB2.out.block b2 hbl2)).trans (HC2.out i hlt).1
            have dj : wr.cell? ⟨b2, off2 + j, none⟩ = some (U j) := by
              obtain ⟨q, rfl⟩ := hq.out
              exact (World.cell?_of_block (HB2.out.block b2 hbl2)).trans (HC2.out j hlj).1
            have G1 : Hid (∀ m, Calls Try.prog 10 #[U i, U j] (wr.drewN m) fun e w' => e = .returned (.bool (decide (zss.getD i [] = zss.getD j []))) ∧ ∃ m', w' = wr.drewN m') := fun m => by
              obtain ⟨q, rfl⟩ := hq.out
              have R1' : Rd ((w2.drewN q).drewN m) (U i) (zss.getD i []) := HRI.out
              have R2' : Rd ((w2.drewN q).drewN m) (U j) (zss.getD j []) := HRJ.out
              refine (equal_quiet _ _ _ _ _ R1' R2').mono ?_
              rintro e w' ⟨h1, m', rfl⟩
              exact ⟨h1, _, World.drewN_drewN _ _ _⟩
            have HQ : Hid (∀ m, ∃ q, wr.drewN m = w2.drewN q) := fun m => by
              obtain ⟨q, rfl⟩ := hq.out
              exact ⟨_, World.drewN_drewN _ _ _⟩
            have g1 : ((n : Int) ≤ (i : Int)) = False := eq_false (by omega)
            have g2 : (n ≤ i) = False := eq_false (by omega)
            have g3 : ((n : Int) ≤ (j : Int)) = False := eq_false (by omega)
            have g4 : (n ≤ j) = False := eq_false (by omega)
            clear hq
            by_cases hs : zss.getD i [] = zss.getD j []
            · have hlk := HLK.out i j hlt hlj hs
              rw [decide_eq_true hs] at G1
              obtain ⟨m, hm⟩ : ∃ m, T i * nd zs j = m := ⟨_, rfl⟩
              rw [hm] at hmul hlk
              have q1 : IntKind.i64.wrap ((T i : Int) * (nd zs j : Int)) = (m : Int) := by
                rw [show (T i : Int) * (nd zs j : Int) = ((T i * nd zs j : Nat) : Int) from rfl, hm]
                rw [IntKind.wrap_i64]; omega
              have q2 : IntKind.i64.wrap ((T j : Int) * (nd zs i : Int)) = (m : Int) := by
                rw [show (T j : Int) * (nd zs i : Int) = ((T j * nd zs i : Nat) : Int) from rfl, ← hlk]
                rw [IntKind.wrap_i64]; omega
              have q3 : ((m : Int) != (m : Int)) = false := by simp
              clear hm hs hlk
              generalize T i = ti at *
              generalize T j = tj at *
              generalize nd zs i = xi at *
              generalize nd zs j = xj at *
              generalize U i = u1 at *
              generalize U j = u2 at *
              go_wp2_with fail
              go_quiet ((go_at_call 10; exact G1.out _))
              go_wp2_with fail
              go_roundw
              case rel => exact ⟨j + 1, by omega, by go_num, HQ.out _⟩
              case measure => simp [intOf]; omega
            · rw [decide_eq_false hs] at G1
              generalize U i = u1 at *
              generalize U j = u2 at *
              go_wp2_with fail
              go_quiet ((go_at_call 10; exact G1.out _))
              go_wp2_with fail
              go_roundw
              case rel => exact ⟨j + 1, by omega, by go_num, HQ.out _⟩
              case measure => simp [intOf]; omega
          · obtain rfl : j = n := by omega
            go_wp2_with fail
            exact ⟨⟨i + 1, by omega, by go_num, hq⟩, by simp [intOf]; omega⟩
      · obtain rfl : i = n := by omega
        have HBE : Hid (Below w.heap.size w wr) := by
          obtain ⟨q, rfl⟩ := hq.out
          exact HB2.out.drewN q
        go_wp2_with fail
        go_ret
        exact ⟨rfl, HBE.out⟩
  · have h1 := hp.1 he
    subst h1
    have hle := seeE_le zs zss ns
    generalize seeE zs zss ns = x at *
    have f1 : ((x : Int) == 0) = false := by rw [beq_eq_false_iff_ne]; omega
    go_wp2_with fail
    go_ret
    exact ⟨by simp; omega, HB2.out⟩
theorem walk (a0 : Option Addr) (len0 cap0 : Nat) (z0 : List Int) (x1 : Option Addr × Nat × Nat × List (List Int)) (a2 : Option Addr) (len2 cap2 : Nat) (z2 : List Int) (w : World) (w0 : IsRow .i64 w a0 len0 cap0 z0) (w1 : RdM w (.slice x1.1 x1.2.1 x1.2.2.1) x1.2.2.2) (w2 : IsRow .i64 w a2 len2 cap2 z2) :
    Calls Try.prog 4 #[.slice a0 len0 cap0, .slice x1.1 x1.2.1 x1.2.2.1, .slice a2 len2 cap2] w fun e w' => e = .returned (.bool true) ∧ Below w.heap.size w w' :=
  walk_any _ _ _ _ _ _ w w0.rd.1 w1 w2.rd.1
end Go.Proofs.Ytmhkbcfdcbbdgaa.bayesLike
