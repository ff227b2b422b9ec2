/- The walk of AliasTwo. No condition. -/
import Derived.Test.YtambhciacmkdoaaTwoL
set_option linter.unusedSimpArgs false
set_option linter.unusedVariables false
namespace Go.Proofs.Ytambhciacmkdoaa
open Go.RowKit
theorem make_bad (v : Value) (zs : List Int) (w : World) (h : Rd w v zs) (he : smE zs ≠ 0) :
    Calls Try.prog 9 #[v] w fun e w' => e = .returned (.tuple #[.slice none 0 0, .int .i64 (smE zs : Nat)]) ∧ w' = w := by
  have HS := Lib.hid (sum_any v zs w h)
  generalize smV zs = sv at *
  generalize smE zs = se at *
  have f1 : ((se : Int) == 0) = false := by rw [beq_eq_false_iff_ne]; omega
  clear h
  go_enter Try.func9, Try.ntmps9
  go_wp2_with fail
  refine HS.out.mono ?_
  rintro e w1 ⟨rfl, rfl⟩
  go_wp2_with fail
  go_ret2
  exact ⟨rfl, rfl⟩
theorem sm_ok {zs : List Int} (h : smE zs = 0) : OkW zs ∧ tot (nd zs) zs.length ≠ 0 ∧ smV zs = tot (nd zs) zs.length := by
  unfold smE at h
  by_cases hk : OkW zs
  · rw [if_pos hk] at h
    by_cases h0 : tot (nd zs) zs.length = 0
    · rw [if_pos h0] at h; cases h
    · exact ⟨hk, h0, by unfold smV; rw [if_pos hk]⟩
  · rw [if_neg hk] at h; cases h
end Go.Proofs.Ytambhciacmkdoaa
namespace Go.Proofs.Ytambhciacmkdoaa.aliasTwo
open Go.RowKit Go.Proofs.Ytambhciacmkdoaa
theorem walk_bad (v : Value) (zs : List Int) (w : World) (h : Rd w v zs) (he : smE zs ≠ 0) :
    Calls Try.prog 4 #[v] w fun e w' => e = .returned (.bool true) ∧ Below w.heap.size w w' := by
  have HR := Lib.hid h
  have HS := Lib.hid (fun w h => sum_any v zs w h)
  have HM := Lib.hid (fun w h => make_bad v zs w h he)
  generalize smV zs = sv at *
  generalize smE zs = se at *
  have f1 : ((se : Int) == 0) = false := by rw [beq_eq_false_iff_ne]; omega
  clear h
  go_enter Try.func4, Try.ntmps4
  go_wp2_with fail
  refine (alive_any _).mono ?_
  rintro e w1 ⟨rfl, hb1⟩
  have HB1 := Lib.hid hb1
  have HA1 := Lib.hid (HR.out.below hb1 (Nat.le_refl _))
  clear hb1
  go_wp2_with fail
  refine (HS.out _ HA1.out).mono ?_
  rintro e w2 ⟨rfl, rfl⟩
  go_wp2_with fail
  refine (HM.out _ HA1.out).mono ?_
  rintro e w3 ⟨rfl, rfl⟩
  go_wp2_with fail
  go_ret
  exact ⟨by simp, HB1.out⟩
set_option maxHeartbeats 3200000 in
theorem walk_ok (v : Value) (zs : List Int) (w : World) (h : Rd w v zs) (he : smE zs = 0) :
    Calls Try.prog 4 #[v] w fun e w' => e = .returned (.bool true) ∧ Below w.heap.size w w' := by
  obtain ⟨hok, h0, hsv⟩ := sm_ok he
  have HR := Lib.hid h
  have HS := Lib.hid (fun w h => sum_any v zs w h)
  rw [hsv, he] at HS
  have HM := Lib.hid (fun w h => make_ok v zs w h hok h0)
  have HT := Lib.hid (fun k hk => fin_two (n := zs.length) (f := nd zs) rfl (Nat.pos_of_ne_zero h0) (k := k) hk)
  have HND : Hid (∀ k, k < zs.length → zs.getD k 0 = (nd zs k : Int)) := fun k hk => hok.nd hk
  have hn1 := hok.1
  have hn2 := hok.2.1
  have hSb : tot (nd zs) zs.length ≤ 419430400 := by
    have := tot_le (f := nd zs) (c := 1048576) (k := zs.length) (fun i _ => hok.le i)
    have h2 := Nat.mul_le_mul hn2 (Nat.le_refl 1048576)
    omega
  obtain ⟨a, cap, rfl, hlc, hcm, hop⟩ := h.open
  have HOP := Lib.hid hop
  clear h hok hop he hsv
  obtain ⟨S, hSS⟩ : ∃ S, tot (nd zs) zs.length = S := ⟨_, rfl⟩
  rw [hSS] at HS HM HT h0 hSb
  obtain ⟨n, hnn⟩ : ∃ n, zs.length = n := ⟨_, rfl⟩
  rw [hnn] at HM HT HND hn1 hn2 hlc HOP HS HR ⊢
  generalize (fin n S (nd zs)).V = V at *
  generalize (fin n S (nd zs)).T = T at *
  clear hSS hnn
  go_enter Try.func4, Try.ntmps4
  go_wp2_with fail
  refine (alive_any _).mono ?_
  rintro e w1 ⟨rfl, hb1⟩
  have HB1 := Lib.hid hb1
  have HA1 := Lib.hid (HR.out.below hb1 (Nat.le_refl _))
  clear hb1
  go_wp2_with fail
  refine (HS.out _ HA1.out).mono ?_
  rintro e w2 ⟨rfl, rfl⟩
  go_wp2_with fail
  refine (HM.out _ HA1.out).mono ?_
  rintro e w3 ⟨hb3, g, rfl, hos⟩
  have HB3 := Lib.hid (HB1.out.trans (hb3.mono HB1.out.size))
  have HRS := Lib.hid hos.rs
  clear hb3 hos
  go_wp2_with fail
  go_loopw [37, 7, 8] (fun kv _ _ wr => ∃ k : Nat, k ≤ n ∧ kv = .int .i64 k ∧ Below w3.heap.size w3 wr) (fun kv _ _ _ => n - (intOf kv).toNat)
  case atStart => exact ⟨0, Nat.zero_le _, rfl, Below.refl _ _⟩
  case round =>
    obtain ⟨k, hk, rfl, hbel⟩ := hrel
    by_cases hlt : k < n
    · obtain ⟨t1, t2, t3, t4⟩ := HT.out k hlt
      have hrs := HRS.out.below hbel (Nat.le_refl _)
      obtain ⟨c1, c2⟩ := hrs.2 k hlt
      obtain ⟨b, off, rfl, hb, hc⟩ := HOP.out k hlt
      have HBE := Lib.hid hbel
      have hbw := (HB3.out.trans (hbel.mono HB3.out.size)).size
      have cx := (World.cell?_of_block ((HB3.out.trans (hbel.mono HB3.out.size)).block b hb)).trans (hc k hlt)
      rw [HND.out k hlt] at cx
      have cw : (wr.alloc (.cells #[.int .i64 (V k : Nat), .int .i64 (T k : Nat)] 33)).cell? ⟨b, off + k, none⟩ = some (.int .i64 (nd zs k : Nat)) := (World.cell?_alloc_past _ _ _ (show b < wr.heap.size by omega)).trans cx
      clear hrs hc hbel cx
      generalize V k = x at *
      generalize T k = y at *
      generalize nd zs k = z at *
      have f1 : decide ((x : Int) < 0) = false := decide_eq_false (by omega)
      have f2 : decide ((S : Int) < (x : Int)) = false := decide_eq_false (by omega)
      have f3 : decide ((y : Int) < 0) = false := decide_eq_false (by omega)
      have f4 : decide ((n : Int) ≤ (y : Int)) = false := decide_eq_false (by omega)
      have f5 : decide ((n : Int) ≤ (k : Int)) = false := decide_eq_false (by omega)
      have q2 : decide (S < x) = false := decide_eq_false (by omega)
      have q4 : decide (n ≤ y) = false := decide_eq_false (by omega)
      have q5 : decide (n ≤ k) = false := decide_eq_false (by omega)
      have HB9 : Hid (Below w3.heap.size w3 (wr.alloc (.cells #[.int .i64 (x : Nat), .int .i64 (y : Nat)] 33))) := HBE.out.alloc HBE.out.size _
      by_cases e1 : x = S
      · obtain rfl := e1
        have e3 : y = k := t3 rfl
        subst e3
        by_cases e2 : z = 0
        · have := t4 e2
          omega
        · clear t3 t4
          have f6 : ((z : Int) == 0) = false := by rw [beq_eq_false_iff_ne]; omega
          go_wp2_with fail
          exact ⟨⟨y + 1, by omega, by go_num, HB9.out⟩, by simp [intOf]; omega⟩
      · have f7 : ((x : Int) == (S : Int)) = false := by rw [beq_eq_false_iff_ne]; omega
        by_cases e2 : z = 0
        · have e3 := t4 e2
          have f6 : ((z : Int) == 0) = true := by rw [beq_iff_eq]; omega
          have f8 : decide (0 < (x : Int)) = false := decide_eq_false (by omega)
          have f9 : (0 < x) = False := eq_false (by omega)
          have f10 : (z = 0) = True := eq_true e2
          clear t3 t4 e2 e3
          go_wp2_with fail
          exact ⟨⟨k + 1, by omega, by go_num, HB9.out⟩, by simp [intOf]; omega⟩
        · have f6 : ((z : Int) == 0) = false := by rw [beq_eq_false_iff_ne]; omega
          clear t3 t4
          go_wp2_with fail
          exact ⟨⟨k + 1, by omega, by go_num, HB9.out⟩, by simp [intOf]; omega⟩
    · obtain rfl : k = n := by omega
      have HBE := Lib.hid (HB3.out.trans (hbel.mono HB3.out.size))
      clear hbel
      go_wp2_with fail
      go_ret
      exact ⟨by simp, HBE.out⟩
theorem walk (a0 : Option Addr) (len0 cap0 : Nat) (z0 : List Int) (w : World) (w0 : IsRow .i64 w a0 len0 cap0 z0) :
    Calls Try.prog 4 #[.slice a0 len0 cap0] w fun e w' => e = .returned (.bool true) ∧ Below w.heap.size w w' := by
  by_cases h : smE (z0.take len0) = 0
  · exact walk_ok _ _ w w0.rd.1 h
  · exact walk_bad _ _ w w0.rd.1 h
end Go.Proofs.Ytambhciacmkdoaa.aliasTwo
