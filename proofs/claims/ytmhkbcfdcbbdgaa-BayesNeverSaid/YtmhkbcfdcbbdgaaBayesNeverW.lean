/- The walk of BayesNever. No condition. -/
import Derived.Test.YtmhkbcfdcbbdgaaLaw
set_option linter.unusedSimpArgs false
set_option linter.unusedVariables false
namespace Go.Proofs.Ytmhkbcfdcbbdgaa.bayesNever
open Go.RowKit Go.Proofs.Ytmhkbcfdcbbdgaa
set_option maxHeartbeats 1600000 in
theorem walk_any (v v2 v3 : Value) (zs : List Int) (zss : List (List Int)) (ns : List Int) (w : World) (h : Rd w v zs) (h2 : RdM w v2 zss) (h3 : Rd w v3 ns) :
    Calls Try.prog 3 #[v, v2, v3] w fun e w' => e = .returned (.bool true) ∧ Below w.heap.size w w' := by
  have HS := Lib.hid (fun w h h2 h3 => see_any v v2 v3 zs zss ns w h h2 h3)
  have HR := Lib.hid h
  have HR2 := Lib.hid h2
  have HR3 := Lib.hid h3
  obtain ⟨a, cap, rfl, hlc, hcm, hop⟩ := h.open
  obtain ⟨a2, cap2, rfl, hlc2, hcm2, hop2⟩ := h2.open
  obtain ⟨a3, cap3, rfl, hlc3, hcm3, hop3⟩ := h3.open
  have HOP := Lib.hid hop
  have HOP2 := Lib.hid hop2
  have HOP3 := Lib.hid hop3
  clear h h2 h3 hop hop2 hop3
  go_enter Try.func3, Try.ntmps3
  go_wp2_with fail
  refine (alive_any _).mono ?_
  rintro e w1 ⟨rfl, hb1⟩
  have HB1 := Lib.hid hb1
  have HA1 := Lib.hid (HR.out.below hb1 (Nat.le_refl _))
  have HA2 := Lib.hid (HR2.out.below hb1 (Nat.le_refl _))
  have HA3 := Lib.hid (HR3.out.below hb1 (Nat.le_refl _))
  clear hb1
  go_wp2_with fail
  refine (HS.out _ HA1.out HA2.out HA3.out).mono ?_
  rintro e w2 ⟨hb2, hp⟩
  have HB2 := Lib.hid (HB1.out.trans (hb2.mono HB1.out.size))
  clear hb2
  by_cases he : seeE zs zss ns = 0
  · obtain ⟨hok, hl12, hseen⟩ := seeE_cases _ _ _ he
    obtain ⟨u, rfl, hu⟩ := hp.2 he
    have HOK := Lib.hid hok
    have HSN := Lib.hid hseen
    obtain ⟨hl1, hn1, hn2, -⟩ := hok
    have HT := Lib.hid (fun k hk => seeT_zero zs zss ns (k := k) hk)
    have HTL := Lib.hid (fun k hk => seeT_le zs zss ns HOK.out hl12 (k := k) hk)
    have HSC := Lib.hid (fun k s hk hs => sg_cell (k := k) (s := s) HOK.out hk hs)
    have HRL : Hid (∀ k, k < zs.length → (zss.getD k []).length = (zss.getD 0 []).length) := fun k hk => (HOK.out.2.2.2 k hk).2.2.1
    have HN : Hid (∀ k, k < zs.length → zs.getD k 0 = (nd zs k : Int)) := fun k hk => by have := (HOK.out.2.2.2 k hk).1; unfold nd; omega
    obtain ⟨b, off, rfl, hbl, hc⟩ := HOP.out 0 (by omega)
    rw [← hl1] at HOP2 hlc2 ⊢
    obtain ⟨b2, off2, U, rfl, hbl2, hc2⟩ := HOP2.out (by omega)
    have HC := Lib.hid hc
    have HC2 := Lib.hid hc2
    obtain ⟨au, cu, rfl, hlu, hcu, hopu⟩ := hu.open
    rw [tabI_len] at hlu hopu ⊢
    obtain ⟨bu, ou, rfl, hblu, hccu⟩ := hopu 0 (by omega)
    have HCU := Lib.hid hccu
    clear hu hopu hccu hc hc2 hseen hp he
    generalize hT : seeT zs zss ns = T at *
    clear hT
    generalize hn : zs.length = n at *
    generalize (zss.getD 0 []).length = n0 at *
    clear hn
    go_wp2_with fail
    go_loop [36, 9, 10, 11, 13] (fun iv _ _ _ _ => ∃ k : Nat, k ≤ n ∧ iv = .int .i64 k) (fun iv _ _ _ _ => n - (intOf iv).toNat)
    case atStart => exact ⟨0, Nat.zero_le _, rfl⟩
    case round =>
      obtain ⟨k, hk, rfl⟩ := hrel
      by_cases hlt : k < n
      · have ct := HCU.out k hlt
        rw [tabI_get _ _ _ hlt] at ct
        have cp := (World.cell?_of_block (HB2.out.block b hbl)).trans (HC.out k hlt)
        rw [HN.out k hlt] at cp
        have d1 := (World.cell?_of_block (HB2.out.block b2 hbl2)).trans (HC2.out k hlt).1
        obtain ⟨ak, qk, huk, hqk, hqkk, hopk⟩ := (HC2.out k hlt).2.open
        rw [huk] at d1
        rw [HRL.out k hlt] at hqk hopk d1
        have HOK2 := Lib.hid hopk
        have HTK := Lib.hid (HT.out k hlt)
        clear hopk huk
        generalize T k = t at *
        generalize nd zs k = x at *
        go_wp2_with fail
        clear ct cp
        go_loop [48, 11, 13] (fun jv nv _ => ∃ (j : Nat) (bv : Bool), j ≤ ns.length ∧ jv = .int .i64 j ∧ nv = .bool bv ∧ Hid (bv = true ↔ (x = 0 ∨ ∃ i, i < j ∧ sg zss k (ns.getD i 0).toNat = 0))) (fun jv _ _ => ns.length - (intOf jv).toNat)
        case atStart =>
          refine ⟨0, _, Nat.zero_le _, rfl, rfl, ?_⟩
          show _ ↔ _
          simp
        case round =>
          obtain ⟨j, bv, hj, rfl, rfl, hbv⟩ := hrel
          by_cases hlj : j < ns.length
          · obtain ⟨b3, o3, rfl, hbl3, hc3⟩ := HOP3.out j hlj
            have cs := (World.cell?_of_block (HB2.out.block b3 hbl3)).trans (hc3 j hlj)
            obtain ⟨s, hs⟩ : ∃ s : Nat, ns.getD j 0 = s := ⟨(ns.getD j 0).toNat, by have := (HSN.out j hlj).1; omega⟩
            have hsn := (HSN.out j hlj).2
            rw [hs] at cs hsn
            have hsn : s < n0 := by omega
            obtain ⟨b4, o4, rfl, hbl4, hc4⟩ := HOK2.out s hsn
            have cr := (World.cell?_of_block (HB2.out.block b4 hbl4)).trans (hc4 s hsn)
            rw [HSC.out k s hlt hsn] at cr
            have HST : Hid ((x = 0 ∨ ∃ i, i < j + 1 ∧ sg zss k (ns.getD i 0).toNat = 0) ↔ ((x = 0 ∨ ∃ i, i < j ∧ sg zss k (ns.getD i 0).toNat = 0) ∨ sg zss k s = 0)) := by
              constructor
              · rintro (h | ⟨i, h1, h2⟩)
                · exact .inl (.inl h)
                · by_cases e : i = j
                  · subst e; rw [hs, Int.toNat_natCast] at h2; exact .inr h2
                  · exact .inl (.inr ⟨i, by omega, h2⟩)
              · rintro ((h | ⟨i, h1, h2⟩) | h)
                · exact .inl h
                · exact .inr ⟨i, by omega, h2⟩
                · exact .inr ⟨j, by omega, by rw [hs, Int.toNat_natCast]; exact h⟩
            have g1 : decide ((n0 : Int) ≤ (s : Int)) = false := decide_eq_false (by omega)
            clear hc3 hc4 hs
            generalize sg zss k s = y at *
            cases bv with
            | true =>
              have HR1 : Hid (true = true ↔ (x = 0 ∨ ∃ i, i < j + 1 ∧ sg zss k (ns.getD i 0).toNat = 0)) := ⟨fun h => HST.out.2 (.inl (hbv.out.1 h)), fun _ => rfl⟩
              clear cr d1
              go_wp2_with fail
              exact ⟨⟨j + 1, _, by omega, by go_num, rfl, HR1⟩, by simp [intOf]; omega⟩
            | false =>
              have HR1 : Hid (((y : Int) == 0) = true ↔ (x = 0 ∨ ∃ i, i < j + 1 ∧ sg zss k (ns.getD i 0).toNat = 0)) := by
                show _ ↔ _
                rw [HST.out, beq_iff_eq]
                constructor
                · intro h; exact .inr (by omega)
                · rintro (h | h)
                  · exact absurd (hbv.out.2 h) (by decide)
                  · omega
              go_wp2_with fail
              exact ⟨⟨j + 1, _, by omega, by go_num, rfl, HR1⟩, by simp [intOf]; omega⟩
          · obtain rfl : j = ns.length := by omega
            have hbv2 : bv = ((t : Int) == 0) := by
              rw [Bool.eq_iff_iff, beq_iff_eq, hbv.out, ← HTK.out]
              omega
            clear hbv
            subst hbv2
            go_wp2_with fail
            exact ⟨⟨k + 1, by omega, by go_num⟩, by simp [intOf]; omega⟩
      · obtain rfl : k = n := by omega
        go_wp2_with fail
        go_ret
        exact ⟨rfl, HB2.out⟩
  · have h1 := hp.1 he
    subst h1
    have hle := seeE_le zs zss ns
    generalize seeE zs zss ns = x at *
    have f1 : ((x : Int) == 0) = false := by rw [beq_eq_false_iff_ne]; omega
    go_wp2_with fail
    go_ret
    exact ⟨by simp; omega, HB2.out⟩
theorem walk (a0 : Option Addr) (len0 cap0 : Nat) (z0 : List Int) (x1 : Option Addr × Nat × Nat × List (List Int)) (a2 : Option Addr) (len2 cap2 : Nat) (z2 : List Int) (w : World) (w0 : IsRow .i64 w a0 len0 cap0 z0) (w1 : RdM w (.slice x1.1 x1.2.1 x1.2.2.1) x1.2.2.2) (w2 : IsRow .i64 w a2 len2 cap2 z2) :
    Calls Try.prog 3 #[.slice a0 len0 cap0, .slice x1.1 x1.2.1 x1.2.2.1, .slice a2 len2 cap2] w fun e w' => e = .returned (.bool true) ∧ Below w.heap.size w w' :=
  walk_any _ _ _ _ _ _ w w0.rd.1 w1 w2.rd.1
end Go.Proofs.Ytmhkbcfdcbbdgaa.bayesNever
