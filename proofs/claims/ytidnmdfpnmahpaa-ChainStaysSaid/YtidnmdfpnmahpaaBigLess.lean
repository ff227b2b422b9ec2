/- lotdrawerref.lessOf: the difference of two rows of digits. Conditions: no more than four digits; the first is no less. -/
import Derived.Test.YtidnmdfpnmahpaaBigSum
set_option linter.unusedSimpArgs false
set_option linter.unusedVariables false
set_option maxRecDepth 20000
namespace Go.Proofs.Ytidnmdfpnmahpaa.Big
open Go.RowKit
theorem less_step {o' o p q r x y c vx vy old B : Nat} (h1 : o' + p * old = o + p * r) (h0 : old = 0) (h2 : o + vy = vx + p * c) (h3 : r + c + y = x + B * q) : o' + (vy + p * y) + p * c * 2 = (vx + p * x) + p * B * q + p * c * 2 := by
  subst h0
  have e : p * (r + c + y) = p * (x + B * q) := by rw [h3]
  grind
set_option maxHeartbeats 1600000 in
theorem less_any (a a' : Option Addr) (n c m c' : Nat) (xs ys : List Nat) (w : World) (hx : Rd w (.slice a n c) (castN xs)) (hy : Rd w (.slice a' m c') (castN ys)) (hxw : Wd xs) (hyw : Wd ys) (hn : n ≤ 4) (hnm : m ≤ n) (hle : val ys ≤ val xs) :
    Calls Try.prog 50 #[.slice a n c, .slice a' m c'] w fun e w' => RowP w w' e (val xs - val ys) := by
  obtain ⟨i0, hi, hz0, hz1, hz2⟩ := info_parts Try.info67
  obtain ⟨hxl, hc1, hc2⟩ := hx.lenEq
  obtain ⟨hyl, hc3, hc4⟩ := hy.lenEq
  have HX := Lib.hid hx
  have HY := Lib.hid hy
  have HXW := Lib.hid hxw
  have HYW := Lib.hid hyw
  have HXL := Lib.hid hxl
  have HYL := Lib.hid hyl
  have HLE := Lib.hid hle
  have b2 : i0.bytes * n ≤ 281474976710656 := by rw [hz2]; omega
  have b3 : n ≤ maxLen := by unfold maxLen; omega
  clear hx hy hxw hyw hxl hyl hle
  go_enter Try.func50, Try.ntmps50
  go_wp2_with (refine wpList_make_full _ rfl _ _ 44 rfl w.heap.size 67 i0 (.int .u32 0) 1 Try.underlying44 hi hz0 hz1 .i64 .i64 _ _ n rfl rfl ?hL ?hC b2 b3 (Nat.le_refl _) ?_)
  case hL => first | rfl | simp
  case hC => first | rfl | simp
  intro w2 hown hgr
  rw [zeros_eq, castN_zeros] at hown
  have HO := Lib.hid hown
  have HB := Lib.hid ((Below.refl w.heap.size w).grown hgr (Nat.le_refl _) (fun k hk => by cases hk))
  obtain ⟨g, hg⟩ : ∃ g, w.heap.size = g := ⟨_, rfl⟩
  have HG := Lib.hid hg
  rw [hg] at HO HB ⊢
  clear hown hgr hg b2 b3
  go_wp2_with fail
  go_loopw [15, 6] (fun kv cv wr => ∃ (k c : Nat) (o : List Nat), k ≤ n ∧ kv = .int .i64 k ∧ cv = .int .u64 c ∧ c ≤ 1 ∧ Hid (o.length = n) ∧ Hid (Wd o) ∧ Hid (∀ i, k ≤ i → o.getD i 0 = 0) ∧ Hid (val o + val (ys.take k) = val (xs.take k) + 4294967296 ^ k * c) ∧ Hid (wr.ownsRow g 67 1 (.slice (some ⟨g, 0, none⟩) n n) n ((castN o).map (Value.int .u32))) ∧ Hid (Below g w wr)) (fun kv _ _ => n - (intOf kv).toNat)
  case atStart => exact ⟨0, 0, List.replicate n 0, Nat.zero_le _, rfl, rfl, Nat.zero_le _, by show _ = _; simp, wd_zeros _, fun i _ => zeros_get _ i, by show _ = _; rw [val_zeros]; simp [val], HO.out, HB.out⟩
  case round =>
    clear HO HB
    obtain ⟨k, c, o, hk, rfl, rfl, hc, HOL, HOW, HOZ, HV, HO, HB⟩ := hrel
    by_cases hlt : k < n
    · have hki : (k : Int) < (n : Int) := by omega
      obtain ⟨b, off, rfl, hb, hcc⟩ := HX.out.at (by omega)
      have cx : wr.cell? ⟨b, off + k, none⟩ = _ := (World.cell?_of_block (HB.out.block b (by rw [← HG.out]; exact hb))).trans (hcc k hlt)
      have hxl := getD_lt HXW.out k
      have co := own_get HO.out k (by omega)
      have fo := World.ownsRow.frozenAt HO.out k
      have HST : Hid (∀ q r : Nat, r + c + ys.getD k 0 = xs.getD k 0 + 4294967296 * q → r < 4294967296 → Hid ((o.set k r).length = n) ∧ Hid (Wd (o.set k r)) ∧ Hid (∀ i, k + 1 ≤ i → (o.set k r).getD i 0 = 0) ∧ Hid (val (o.set k r) + val (ys.take (k + 1)) = val (xs.take (k + 1)) + 4294967296 ^ (k + 1) * q) ∧ Hid (World.ownsRow (wr.setCell ⟨g, k, none⟩ (.int .u32 (r : Int))) g 67 1 (.slice (some ⟨g, 0, none⟩) n n) n ((castN (o.set k r)).map (Value.int .u32))) ∧ Hid (Below g w (wr.setCell ⟨g, k, none⟩ (.int .u32 (r : Int))))) := fun q r h2 h3 => by
        refine ⟨by show _ = _; rw [List.length_set]; exact HOL.out, wd_set HOW.out k h3, fun i hi => ?_, ?_, ?_, HB.out.setCell (Nat.le_refl _) _⟩
        · rw [getD_set_ne _ _ (by omega)]; exact HOZ.out i (by omega)
        · show _ = _
          rw [val_take, val_take, Nat.pow_succ]
          have := less_step (val_set o k r (by rw [HOL.out]; omega)) (HOZ.out k (Nat.le_refl _)) HV.out h2
          omega
        · have := own_set HO.out k (r : Int)
          rw [castN_set] at this
          exact this
      clear hcc
      by_cases hkm : k < m
      · have hkm2 : decide ((k : Int) < (m : Int)) = true := decide_eq_true (by omega)
        obtain ⟨b', off', rfl, hb', hcc'⟩ := HY.out.at (by omega)
        have cy : wr.cell? ⟨b', off' + k, none⟩ = _ := (World.cell?_of_block (HB.out.block b' (by rw [← HG.out]; exact hb'))).trans (hcc' k hkm)
        have hyl := getD_lt HYW.out k
        clear hcc'
        generalize xs.getD k 0 = x at *
        generalize ys.getD k 0 = y at *
        by_cases hge : c + y ≤ x
        · obtain ⟨r, hr⟩ : ∃ r, x - c - y = r := ⟨_, rfl⟩
          have e5 : (x : Int) - (c : Int) - (y : Int) = (r : Int) := by omega
          have HD := Lib.hid (HST.out 0 r (by omega) (by omega))
          have e2 : IntKind.u64.wrap (IntKind.u64.wrap ((x : Int) - (c : Int)) - (y : Int)) = (r : Int) := by rw [IntKind.wrap_u64, IntKind.wrap_u64]; omega
          have e3 : IntKind.u32.wrap (r : Int) = (r : Int) := by rw [IntKind.wrap_u32]; omega
          have e4 : (r : Int) / 9223372036854775808 = 0 := by omega
          clear HST hr
          go_wp2_with fail
          go_roundw
          case rel => exact ⟨k + 1, 0, o.set k r, by omega, by go_num, rfl, by decide, HD.out⟩
          case measure => simp [intOf]; omega
        · obtain ⟨r, hr⟩ : ∃ r, 4294967296 + x - c - y = r := ⟨_, rfl⟩
          have HD := Lib.hid (HST.out 1 r (by omega) (by omega))
          have e2 : IntKind.u64.wrap (IntKind.u64.wrap ((x : Int) - (c : Int)) - (y : Int)) = 18446744069414584320 + (r : Int) := by rw [IntKind.wrap_u64, IntKind.wrap_u64]; omega
          have e3 : IntKind.u32.wrap (18446744069414584320 + (r : Int)) = (r : Int) := by rw [IntKind.wrap_u32]; omega
          have e4 : (18446744069414584320 + (r : Int)) / 9223372036854775808 = 1 := by omega
          clear HST hr
          go_wp2_with fail
          go_roundw
          case rel => exact ⟨k + 1, 1, o.set k r, by omega, by go_num, rfl, by decide, HD.out⟩
          case measure => simp [intOf]; omega
      · have hkm2 : decide ((k : Int) < (m : Int)) = false := decide_eq_false (by omega)
        have hy0 : ys.getD k 0 = 0 := by rw [List.getD_eq_getElem?_getD, List.getElem?_eq_none (by rw [HYL.out]; omega)]; rfl
        rw [hy0] at HST
        generalize xs.getD k 0 = x at *
        by_cases hge : c ≤ x
        · obtain ⟨r, hr⟩ : ∃ r, x - c = r := ⟨_, rfl⟩
          have e5 : (x : Int) - (c : Int) = (r : Int) := by omega
          have HD := Lib.hid (HST.out 0 r (by omega) (by omega))
          have e2 : IntKind.u64.wrap ((x : Int) - (c : Int)) = (r : Int) := by rw [IntKind.wrap_u64]; omega
          have e3 : IntKind.u32.wrap (r : Int) = (r : Int) := by rw [IntKind.wrap_u32]; omega
          have e4 : (r : Int) / 9223372036854775808 = 0 := by omega
          clear HST hy0 hr
          go_wp2_with fail
          go_roundw
          case rel => exact ⟨k + 1, 0, o.set k r, by omega, by go_num, rfl, by decide, HD.out⟩
          case measure => simp [intOf]; omega
        · obtain ⟨r, hr⟩ : ∃ r, 4294967296 + x - c = r := ⟨_, rfl⟩
          have HD := Lib.hid (HST.out 1 r (by omega) (by omega))
          have e2 : IntKind.u64.wrap ((x : Int) - (c : Int)) = 18446744069414584320 + (r : Int) := by rw [IntKind.wrap_u64]; omega
          have e3 : IntKind.u32.wrap (18446744069414584320 + (r : Int)) = (r : Int) := by rw [IntKind.wrap_u32]; omega
          have e4 : (18446744069414584320 + (r : Int)) / 9223372036854775808 = 1 := by omega
          clear HST hy0 hr
          go_wp2_with fail
          go_roundw
          case rel => exact ⟨k + 1, 1, o.set k r, by omega, by go_num, rfl, by decide, HD.out⟩
          case measure => simp [intOf]; omega
    · obtain rfl : k = n := by omega
      have HR : Hid (Rd wr (.slice (some ⟨g, 0, none⟩) k k) (castN o)) := Rd.own HO.out
      have HVE : Hid (val o = val xs - val ys) := by
        show _ = _
        have h2 := HV.out
        rw [List.take_of_length_le (by rw [HYL.out]; omega), List.take_of_length_le (by rw [HXL.out]; exact Nat.le_refl _)] at h2
        have h3 := val_lt HOW.out
        rw [HOL.out] at h3
        have h4 := HLE.out
        have h5 : c = 0 := by
          rcases Nat.eq_zero_or_pos c with h | h
          · exact h
          · obtain rfl : c = 1 := by omega
            generalize 4294967296 ^ k = p at *
            omega
        subst h5
        omega
      go_wp2_with fail
      go_ret
      exact ⟨g, k, o, rfl, by rw [HG.out]; exact Nat.le_refl _, HR.out, HOW.out, HVE.out, by omega, by rw [HG.out]; exact HB.out⟩
end Go.Proofs.Ytidnmdfpnmahpaa.Big
