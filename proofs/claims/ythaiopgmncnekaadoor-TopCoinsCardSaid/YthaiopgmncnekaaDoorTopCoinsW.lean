/- The walk of TopCoins. Condition: the listed variables as they are laid. -/
import Derived.Test.YthaiopgmncnekaaDoorCoinsL
import Derived.Test.YthaiopgmncnekaaDoorAl
set_option linter.unusedSimpArgs false
set_option linter.unusedVariables false
namespace Go.Proofs.YthaiopgmncnekaaDoor
open Go.RowKit
theorem coins_nn : (Coins.allT (fun x => decide (0 ≤ bits .and .i64 (wrap64 (Gray.U (Gray.pcw (Gray.code (BitVec.ofNat 64 x))))) 127)) 14 0) = true := by decide +kernel
theorem coins_int (x : Nat) (hx : x < 16384) : bits .and .i64 (wrap64 (Gray.U (Gray.pcw (Gray.code (BitVec.ofNat 64 x))))) 127 = ((Coins.PC x : Nat) : Int) := by
  have h := Coins.allT_all _ 14 0 coins_nn x hx
  rw [Nat.zero_add] at h
  have := of_decide_eq_true h
  unfold Coins.PC
  omega
theorem coins_u (x : Nat) (hx : x < 16384) : Gray.U (BitVec.ofNat 64 x) = (x : Int) := by
  unfold Gray.U
  rw [BitVec.toNat_ofNat, Nat.mod_eq_of_lt (by omega)]
theorem cnt_le (f : Nat → Nat) (k : Nat) : ∀ x, Coins.cnt f k x ≤ x
  | 0 => Nat.le_refl _
  | x + 1 => by
    have := cnt_le f k x
    show Coins.cnt f k x + (if f x = k then 1 else 0) ≤ x + 1
    split <;> omega
theorem pow_le14 (n : Nat) (hn : n ≤ 14) : 2 ^ n ≤ 16384 := by
  have := Nat.pow_le_pow_right (n := 2) (by decide) hn
  simpa using this
set_option maxHeartbeats 1600000 in
set_option maxRecDepth 20000 in
theorem coins_walk (n : Nat) (hn : n ≤ 14) (w : World) (hT : TW w) :
    Calls Tryd.prog 5 #[.int .i64 n] w fun e w' => e = .returned (.bool true) ∧ Below w.heap.size w w' := by
  obtain ⟨i0, hinfo, hz0, hz1, hz2⟩ := info_parts Tryd.info3
  have HA := Lib.hid (alive_any w hT)
  clear hT
  obtain ⟨N, hN⟩ : ∃ N, 2 ^ n = N := ⟨_, rfl⟩
  have hN4 : N ≤ 16384 := by rw [← hN]; exact pow_le14 n hn
  have q5 : IntKind.u64.wrap ((2 : Int) ^ n) = (N : Int) := by
    rw [show ((2 : Int) ^ n) = (N : Int) by rw [← hN]; simp, IntKind.wrap_u64]; omega
  have HNN := Lib.hid hN
  clear hN
  have q1 : decide ((n : Int) < 0) = false := decide_eq_false (by omega)
  have q2 : decide ((14 : Int) < (n : Int)) = false := decide_eq_false (by omega)
  have q3 : decide (14 < n) = false := decide_eq_false (by omega)
  have q4 : IntKind.i64.wrap ((n : Int) + 1) = (n : Int) + 1 := by rw [IntKind.wrap_i64]; omega
  go_enter Tryd.func5, Tryd.ntmps5
  go_wp2_with fail
  refine HA.out.mono ?_
  rintro e w1 ⟨rfl, hb1⟩
  have HB1 := Lib.hid hb1
  have hs1 := hb1.size
  clear hb1
  go_wp2_with fail
  go_loopw [3, 24] (fun sv iv wr => ∃ i : Nat, i ≤ n ∧ iv = .int .i64 i ∧ Hid (Rd wr sv (Coins.bn i)) ∧ Hid (Below w.heap.size w wr)) (fun _ iv _ => n - (intOf iv).toNat)
  case atStart =>
    exact ⟨0, Nat.zero_le _, rfl, Rd.built w1 [1] _ 3 rfl 1 rfl (by decide), HB1.out.alloc hs1 _⟩
  case round =>
    obtain ⟨i, hi, rfl, HR, HB⟩ := hrel
    by_cases hlt : i < n
    · have hlt2 : (i : Int) < (n : Int) := by omega
      have HS := Lib.hid (Dice.sum_any _ _ (Coins.bn i) [1, 1] _ (HR.out.alloc (.cells #[.int .i64 1, .int .i64 1] 3)) (Rd.built wr [1, 1] #[.int .i64 1, .int .i64 1] 3 rfl 2 rfl (by decide)))
      have hs := HB.out.size
      have HBA : Hid (Below w.heap.size w (wr.alloc (.cells #[.int .i64 1, .int .i64 1] 3))) := HB.out.alloc hs _
      have hR := (Coins.bn_ok i (by omega)).2.1
      have hR2 := (Coins.bn_ok (i + 1) (by omega)).2.1
      have HRR := Lib.hid hR
      have HRR2 : Hid (Dice.RightL (Dice.sumL (Coins.bn i) [1, 1])) := hR2
      clear hR hR2
      go_wp2_with fail
      refine HS.out.mono ?_
      rintro e w2 ⟨hb2, hp⟩
      have HB2 := Lib.hid (HBA.out.trans (hb2.mono HBA.out.size))
      clear hb2
      rcases hp with ⟨-, -, -, v, hv, rfl⟩ | ⟨-, -, h, -⟩ | ⟨h, -⟩
      · have HV := Lib.hid hv
        clear hv
        go_wp2_with fail
        go_roundw
        case rel => exact ⟨i + 1, by omega, by go_num, HV.out, HB2.out⟩
        case measure => simp [intOf]; omega
      · exact absurd HRR2.out h
      · exact absurd ⟨HRR.out, Coins.one_right⟩ h
    · obtain rfl : i = n := by omega
      have b2 : i0.bytes * (i + 1) ≤ 281474976710656 := by rw [hz2]; omega
      have b3 : i + 1 ≤ maxLen := by unfold maxLen; omega
      obtain ⟨wo, hwo⟩ : ∃ wo, wo = wr := ⟨_, rfl⟩
      subst hwo
      go_wp2_with (refine wpList_make_full _ rfl _ _ 30 rfl wo.heap.size 3 i0 (.int .i64 0) 1 Tryd.underlying30 hinfo hz0 hz1 .i64 .i64 _ _ (i + 1) rfl rfl ?hL ?hC b2 b3 (Nat.le_refl _) ?_)
      case hL => first | rfl | simp
      case hC => first | rfl | simp
      intro w2 hown hgr
      have HB2 := Lib.hid ((Below.refl wo.heap.size wo).grown hgr (Nat.le_refl _) (fun k hk => by cases hk))
      have HO := Lib.hid (Dice.OI.made hown)
      clear hown hgr b2 b3
      obtain ⟨g, hg⟩ : ∃ g, wo.heap.size = g := ⟨_, rfl⟩
      have HG := Lib.hid hg
      have hgs : w.heap.size ≤ g := by rw [← hg]; exact HB.out.size
      rw [hg] at HB2 HO ⊢
      clear hg
      go_wp2_with fail
      go_loopw [41] (fun xv wr => ∃ x : Nat, x ≤ N ∧ xv = .int .u64 x ∧ Hid (Dice.OI wr g g (i + 1) (fun k => Coins.cnt Coins.PC k x)) ∧ Hid (Below g wo wr)) (fun xv _ => N - (intOf xv).toNat)
      case atStart => exact ⟨0, Nat.zero_le _, rfl, HO.out.congr (fun k _ => rfl), HB2.out⟩
      case round =>
        obtain ⟨x, hx, rfl, HOX, HBX⟩ := hrel
        by_cases hxl : x < N
        · have hxl2 : (x : Int) < (N : Int) := by omega
          have HCO : Hid (∀ w', Calls Tryd.prog 22 #[.int .u64 (x : Int)] w' fun e w2 => e = .returned (.int .u64 (Gray.U (Gray.code (BitVec.ofNat 64 x)))) ∧ w' = w2) := fun w' => by
            have := Gray.code_any (BitVec.ofNat 64 x) w'
            rw [coins_u x (by omega)] at this
            exact this
          have HON : Hid (∀ w', Calls Tryd.prog 21 #[.int .u64 (Gray.U (Gray.code (BitVec.ofNat 64 x)))] w' fun e w2 => e = .returned (.int .i64 ((Coins.PC x : Nat) : Int)) ∧ w' = w2) := fun w' => by
            have := Gray.ones_any (Gray.code (BitVec.ofNat 64 x)) w'
            rw [coins_int x (by omega)] at this
            exact this
          have hp := Coins.PC_le i hn x (by rw [HNN.out]; exact hxl)
          have HST : Hid (∀ k, Coins.cnt Coins.PC k (x + 1) = Coins.cnt Coins.PC k x + if Coins.PC x = k then 1 else 0) := fun k => rfl
          obtain ⟨c, hc⟩ : ∃ c, Gray.U (Gray.code (BitVec.ofNat 64 x)) = c := ⟨_, rfl⟩
          rw [hc] at HCO HON
          obtain ⟨p, hpp⟩ : ∃ p, Coins.PC x = p := ⟨_, rfl⟩
          rw [hpp] at hp HON HST
          have c0 := HOX.out.get p (by omega)
          have f0 := HOX.out.frozen p
          have hvl := cnt_le Coins.PC p x
          have HVE := Lib.hid (rfl : Coins.cnt Coins.PC p x = Coins.cnt Coins.PC p x)
          obtain ⟨v, hv⟩ : ∃ v, Coins.cnt Coins.PC p x = v := ⟨_, rfl⟩
          rw [hv] at c0 hvl
          have HV := Lib.hid hv
          have r1 : decide ((i : Int) < (p : Int)) = false := decide_eq_false (by omega)
          have r2 : decide (i < p) = false := decide_eq_false (by omega)
          have r3 : (i < p) = False := eq_false (by omega)
          have r4 : IntKind.i64.wrap ((v : Int) + 1) = ((v + 1 : Nat) : Int) := by rw [IntKind.wrap_i64]; omega
          have r5 : IntKind.u64.wrap ((x : Int) + 1) = ((x + 1 : Nat) : Int) := by rw [IntKind.wrap_u64]; omega
          have r6 : p < i + 1 := by omega
          clear hc hpp hv HVE
          go_wp2_with fail
          refine (HCO.out _).mono ?_
          rintro e w3 ⟨rfl, rfl⟩
          go_wp2_with fail
          refine (HON.out _).mono ?_
          rintro e w3 ⟨rfl, rfl⟩
          go_wp2_with fail
          go_roundw
          case rel =>
            refine ⟨x + 1, by omega, rfl, ?_, HBX.out.setCell (Nat.le_refl _) _⟩
            refine (HOX.out.set p (v + 1)).congr fun k _ => ?_
            show (if k = p then v + 1 else Coins.cnt Coins.PC k x) = _
            rw [HST.out k]
            by_cases e : k = p
            · subst e; rw [if_pos rfl, if_pos rfl, HV.out]
            · rw [if_neg e, if_neg (fun h => e h.symm)]; rfl
          case measure => simp [intOf]; omega
        · obtain rfl : x = N := by omega
          have HWD : Hid (Dice.OI wr g g (i + 1) (fun k => Coins.ch i k)) := HOX.out.congr fun k _ => by
            show Coins.cnt Coins.PC k x = _
            rw [← HNN.out]; exact Coins.words_ch i hn k
          obtain ⟨b1, b2, b3⟩ := Coins.bn_ok i (by omega)
          have hrd := HR.out.below HBX.out (by rw [HG.out]; exact Nat.le_refl _)
          obtain ⟨a, cap, rfl, hl1, hl2, hop⟩ := hrd.open
          obtain ⟨bb, off, rfl, hbb, hcs⟩ := hop 0 (by omega)
          rw [b1] at hcs hl1 ⊢
          have HSC : Hid (∀ k, k < i + 1 → wr.cell? ⟨bb, off + k, none⟩ = some (.int .i64 (Coins.ch i k : Nat))) := fun k hk => by rw [hcs k hk, b3 k hk]
          have HBE : Hid (Below w.heap.size w wr) := HB.out.trans (HBX.out.mono hgs)
          have hgw : g < wr.heap.size := HWD.out.lt.2
          clear b1 b2 b3 hrd hop hcs
          obtain ⟨wp, hwp⟩ : ∃ wp, wp = wr := ⟨_, rfl⟩
          subst hwp
          go_wp2_with fail
          go_loopw [59] (fun kv wq => ∃ k : Nat, k ≤ i + 1 ∧ kv = .int .i64 k ∧ Hid (Below wp.heap.size wp wq)) (fun kv _ => i + 1 - (intOf kv).toNat)
          case atStart => exact ⟨0, Nat.zero_le _, rfl, Below.refl _ _⟩
          case round =>
            obtain ⟨k, hk, rfl, HBK⟩ := hrel
            by_cases hkl : k < i + 1
            · have hkl2 : (k : Int) < (i : Int) + 1 := by omega
              have HOF : Hid (∀ w', Calls Tryd.prog 23 #[.int .i64 i, .int .i64 k] w' fun e w2 => e = .returned (.tuple #[.int .i64 (Coins.ch i k : Nat), .int .i64 0]) ∧ Below w'.heap.size w' w2) := fun w' => by
                have := Walk.Of_any i k (by omega) w'
                rwa [Coins.of_ch i (by omega) k hkl] at this
              have HFR : Hid (∀ w', Calls Tryd.prog 24 #[.int .i64 i, .int .i64 (2 * (k : Int) - (i : Int))] w' fun e w2 => e = .returned (.tuple #[.int .i64 (Coins.ch i k : Nat), .int .i64 0]) ∧ Below w'.heap.size w' w2) := fun w' => by
                have := Walk.Free_any i (by omega) (2 * (k : Int) - (i : Int)) (by omega) (by omega) w'
                rwa [Coins.free_ch i (by omega) k hkl] at this
              have D0 := HSC.out k hkl
              have D1 := HWD.out.get k hkl
              obtain ⟨c, hc⟩ : ∃ c, Coins.ch i k = c := ⟨_, rfl⟩
              rw [hc] at HOF HFR D0 D1
              have HD0 := Lib.hid D0
              have HD1 := Lib.hid D1
              have r1 : IntKind.i64.wrap (2 * (k : Int)) = 2 * (k : Int) := by rw [IntKind.wrap_i64]; omega
              have r2 : IntKind.i64.wrap (2 * (k : Int) - (i : Int)) = 2 * (k : Int) - (i : Int) := by rw [IntKind.wrap_i64]; omega
              have r3 : decide ((k : Int) < (i : Int) + 1) = true := decide_eq_true (by omega)
              have r4 : (i + 1 ≤ k) = False := eq_false (by omega)
              have r5 : ((i : Int) + 1 ≤ (k : Int)) = False := eq_false (by omega)
              have r6 : ((c : Int) == (c : Int)) = true := beq_self_eq_true _
              clear hc D0 D1
              go_wp2_with fail
              refine (HOF.out _).mono ?_
              rintro e w4 ⟨rfl, hb4⟩
              have HB4 := Lib.hid (HBK.out.trans (hb4.mono HBK.out.size))
              clear hb4
              go_wp2_with fail
              refine (HFR.out _).mono ?_
              rintro e w5 ⟨rfl, hb5⟩
              have HB5 := Lib.hid (HB4.out.trans (hb5.mono HB4.out.size))
              clear hb5
              have E0 : w5.cell? ⟨bb, off + k, none⟩ = some (.int .i64 (c : Int)) := (World.cell?_of_block (HB5.out.block bb hbb)).trans HD0.out
              have E1 : w5.cell? ⟨g, k, none⟩ = some (.int .i64 (c : Int)) := (World.cell?_of_block (HB5.out.block g hgw)).trans HD1.out
              go_wp2_with fail
              go_roundw
              case rel => exact ⟨k + 1, by omega, by go_num, HB5.out⟩
              case measure => simp [intOf]; omega
            · obtain rfl : k = i + 1 := by omega
              have HE := Lib.hid (HBE.out.trans (HBK.out.mono HBE.out.size))
              go_wp2_with fail
              go_ret
              exact ⟨rfl, HE.out⟩
set_option maxHeartbeats 800000 in
set_option maxRecDepth 20000 in
theorem topCoins.walk (a : Int) (w : World) (hT : TW w) (_ : (Lit.int .i64 a).wf = true) :
    Calls Tryd.prog 5 #[.int .i64 a] w fun e w' => e = .returned (.bool true) ∧ Below w.heap.size w w' := by
  by_cases h1 : a < 0
  · have HA := Lib.hid (alive_any w hT)
    have q1 : decide (a < 0) = true := decide_eq_true h1
    clear hT
    go_enter Tryd.func5, Tryd.ntmps5
    go_wp2_with fail
    refine HA.out.mono ?_
    rintro e w1 ⟨rfl, hb1⟩
    have HB := Lib.hid hb1
    clear hb1
    go_wp2_with fail
    go_ret
    exact ⟨rfl, HB.out⟩
  · by_cases h2 : 14 < a
    · have HA := Lib.hid (alive_any w hT)
      have q1 : decide (a < 0) = false := decide_eq_false h1
      have q2 : decide (14 < a) = true := decide_eq_true h2
      clear hT
      go_enter Tryd.func5, Tryd.ntmps5
      go_wp2_with fail
      refine HA.out.mono ?_
      rintro e w1 ⟨rfl, hb1⟩
      have HB := Lib.hid hb1
      clear hb1
      go_wp2_with fail
      go_ret
      exact ⟨rfl, HB.out⟩
    · have := coins_walk a.toNat (by omega) w hT
      rwa [show ((a.toNat : Nat) : Int) = a by omega] at this
end Go.Proofs.YthaiopgmncnekaaDoor
