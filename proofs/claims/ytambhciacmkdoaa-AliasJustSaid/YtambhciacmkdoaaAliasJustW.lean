/- The walk of AliasJust. No condition. -/
import Derived.Test.YtambhciacmkdoaaJustL
set_option linter.unusedSimpArgs false
set_option linter.unusedVariables false
namespace Go.Proofs.Ytambhciacmkdoaa.aliasJust
open Go.RowKit Go.Proofs.Ytambhciacmkdoaa
theorem walk_bad (v : Value) (zs : List Int) (w : World) (h : Rd w v zs) (he : smE zs ≠ 0) :
    Calls Try.prog 3 #[v] w fun e w' => e = .returned (.bool true) ∧ Below w.heap.size w w' := by
  have HR := Lib.hid h
  have HS := Lib.hid (fun w h => sum_any v zs w h)
  have HM := Lib.hid (fun w h => make_bad v zs w h he)
  generalize smV zs = sv at *
  generalize smE zs = se at *
  have f1 : ((se : Int) == 0) = false := by rw [beq_eq_false_iff_ne]; omega
  clear h
  go_enter Try.func3, Try.ntmps3
  go_wp2_with fail
  refine (alive_any _).mono ?_
  rintro e w1 ⟨rfl, hb1⟩
  have HB1 := Lib.hid hb1
  have HA1 := Lib.hid (HR.out.below hb1 (Nat.le_refl _))
  clear hb1
  go_wp2_with fail
  refine (HS.out _ HA1.out).mono ?_
  rintro e w2 ⟨rfl, rfl⟩
  go_wp2_with fail
  refine (HM.out _ HA1.out).mono ?_
  rintro e w3 ⟨rfl, rfl⟩
  go_wp2_with fail
  go_ret
  exact ⟨by simp, HB1.out⟩
set_option maxHeartbeats 3200000 in
theorem walk_ok (v : Value) (zs : List Int) (w : World) (h : Rd w v zs) (he : smE zs = 0) :
    Calls Try.prog 3 #[v] w fun e w' => e = .returned (.bool true) ∧ Below w.heap.size w w' := by
  obtain ⟨i3, hinfo3, hz0, hz1, hz2⟩ := info_parts Try.info3t
  obtain ⟨hok, h0, hsv⟩ := sm_ok he
  have HR := Lib.hid h
  have HS := Lib.hid (fun w h => sum_any v zs w h)
  rw [hsv, he] at HS
  have HM := Lib.hid (fun w h => make_ok v zs w h hok h0)
  have HT := Lib.hid (fun k hk => fin_two (n := zs.length) (f := nd zs) rfl (Nat.pos_of_ne_zero h0) (k := k) hk)
  have HJ := Lib.hid (fun d hd => fin_just (n := zs.length) (f := nd zs) rfl (d := d) hd)
  have HND : Hid (∀ k, k < zs.length → zs.getD k 0 = (nd zs k : Int)) := fun k hk => hok.nd hk
  have HNB := Lib.hid hok.le
  have hn1 := hok.1
  have hn2 := hok.2.1
  have hSb : tot (nd zs) zs.length ≤ 419430400 := by
    have := tot_le (f := nd zs) (c := 1048576) (k := zs.length) (fun i _ => hok.le i)
    have h2 := Nat.mul_le_mul hn2 (Nat.le_refl 1048576)
    omega
  obtain ⟨a, cap, rfl, hlc, hcm, hop⟩ := h.open
  have HOP := Lib.hid hop
  clear h hok hop he hsv
  obtain ⟨S, hSS⟩ : ∃ S, tot (nd zs) zs.length = S := ⟨_, rfl⟩
  rw [hSS] at HS HM HT HJ h0 hSb
  obtain ⟨n, hnn⟩ : ∃ n, zs.length = n := ⟨_, rfl⟩
  rw [hnn] at HM HT HJ HND hn1 hn2 hlc HOP HS HR ⊢
  generalize (fin n S (nd zs)).V = V at *
  generalize (fin n S (nd zs)).T = T at *
  clear hSS hnn
  have b3 : i3.bytes * n ≤ 281474976710656 := by rw [hz2]; omega
  have bm : n ≤ maxLen := by unfold maxLen; omega
  go_enter Try.func3, Try.ntmps3
  go_wp2_with fail
  refine (alive_any _).mono ?_
  rintro e w1 ⟨rfl, hb1⟩
  have HB1 := Lib.hid hb1
  have HA1 := Lib.hid (HR.out.below hb1 (Nat.le_refl _))
  clear hb1
  go_wp2_with fail
  refine (HS.out _ HA1.out).mono ?_
  rintro e w2 ⟨rfl, rfl⟩
  go_wp2_with fail
  refine (HM.out _ HA1.out).mono ?_
  rintro e w3 ⟨hb3, g, rfl, hos⟩
  have HB3 := Lib.hid (HB1.out.trans (hb3.mono HB1.out.size))
  have HRS := Lib.hid hos.rs
  clear hb3 hos HM HS HR HA1 HB1
  by_cases hbig : 2000 < S
  · have f1 : decide ((2000 : Int) < (S : Int)) = true := decide_eq_true (by omega)
    go_wp2_with fail
    go_ret
    exact ⟨by simp, HB3.out⟩
  · have f1 : decide ((2000 : Int) < (S : Int)) = false := decide_eq_false (by omega)
    go_wp2_with (refine wpList_make_full _ rfl _ _ 22 rfl w3.heap.size 3 i3 (.int .i64 0) 1 Try.underlying22 hinfo3 hz0 hz1 .i64 .i64 _ _ n rfl rfl ?hL ?hC b3 bm (Nat.le_refl _) ?_)
    case hL => simp
    case hC => simp
    intro w4 hown hgr
    have HB4 := Lib.hid ((Below.refl w3.heap.size w3).grown hgr (Nat.le_refl _) (fun k hk => by cases hk))
    have HO4 := Lib.hid (OC.made (g := w3.heap.size) hown)
    clear hown hgr b3 bm hinfo3 hz0 hz1 hz2 f1
    obtain ⟨t, ht⟩ : ∃ t, w3.heap.size = t := ⟨_, rfl⟩
    have HT3 := Lib.hid ht
    rw [ht] at HO4 HB4 ⊢
    clear ht
    go_wp2_with fail
    go_loopw [62, 8, 9, 10, 11] (fun pv _ _ _ _ wr => ∃ p : Nat, p ≤ n ∧ pv = .int .i64 p ∧ Below t w3 wr ∧ OC wr t t n n (ct V T S p)) (fun pv _ _ _ _ _ => n - (intOf pv).toNat)
    case atStart => exact ⟨0, Nat.zero_le _, rfl, HB4.out, HO4.out⟩
    case round =>
      clear HB4 HO4
      obtain ⟨p, hp, rfl, hbel, ho⟩ := hrel
      have HBE := Lib.hid hbel
      have HO := Lib.hid ho
      clear hbel ho
      by_cases hlt : p < n
      · obtain ⟨wo, hwo⟩ : ∃ wo, wr = wo := ⟨_, rfl⟩
        subst hwo
        go_wp2_with fail
        go_loopw [66, 9, 10, 11] (fun vv _ _ _ wr => ∃ v : Nat, v ≤ S ∧ vv = .int .i64 v ∧ Below t w3 wr ∧ OC wr t t n n (tm V T S p v)) (fun vv _ _ _ _ => S - (intOf vv).toNat)
        case atStart => exact ⟨0, Nat.zero_le _, rfl, HBE.out, HO.out.congr (fun d _ => (tm0 V T S p d).symm)⟩
        case round =>
          clear HBE HO
          obtain ⟨v, hv, rfl, hbel, ho⟩ := hrel
          have HBE := Lib.hid hbel
          have HO := Lib.hid ho
          clear hbel ho
          by_cases hvl : v < S
          · go_wp2_with fail
            refine (draw_ok g n V T p hlt hn2 v _ (HRS.out.below HBE.out (by rw [HT3.out]; exact Nat.le_refl _))).mono ?_
            rintro e w5 ⟨rfl, rfl⟩
            obtain ⟨d, hd, hdn⟩ : ∃ d : Nat, d = (if v < V p then p else T p) ∧ d < n := ⟨_, rfl, by
              split
              · exact hlt
              · exact (HT.out p hlt).2.1⟩
            have e1 : (if (v : Int) < (V p : Int) then (p : Int) else (T p : Int)) = (d : Int) := by
              rw [hd]
              by_cases c : v < V p
              · rw [if_pos c, if_pos (by omega)]
              · rw [if_neg c, if_neg (by omega)]
            rw [e1]
            have HD := Lib.hid hd
            clear e1 hd
            have c1 := HO.out.get d hdn
            have f1 := HO.out.frozen d
            have hx : tm V T S p v d ≤ p * S + v := tm_le V T S p v d (fun q hq => (HT.out q (by omega)).1)
            have hx2 : p * S ≤ 400 * 2000 := Nat.mul_le_mul (by omega) (by omega)
            have HST := Lib.hid (HO.out.set d (tm V T S p v d + 1))
            have HX : Hid (∀ k, (if k = d then tm V T S p v d + 1 else tm V T S p v k) = tm V T S p (v + 1) k) := fun k => by
              rw [tm_step, ← HD.out]
              by_cases e : k = d
              · rw [if_pos e, if_pos e, e]
              · rw [if_neg e, if_neg e]
            generalize tm V T S p v d = x at *
            generalize p * S = ps at *
            go_wp2_with fail
            exact ⟨⟨v + 1, by omega, by go_num, HBE.out.setCell (Nat.le_refl _) _, HST.out.congr (fun k _ => HX.out k)⟩, by simp [intOf]; omega⟩
          · obtain rfl : v = S := by omega
            go_wp2_with fail
            exact ⟨⟨p + 1, by omega, by go_num, HBE.out, HO.out.congr (fun d _ => tm_end V T v p d (HT.out p hlt).1)⟩, by simp [intOf]; omega⟩
      · obtain rfl : p = n := by omega
        go_wp2_with fail
        go_loop [98, 12, 13] (fun dv _ _ => ∃ d : Nat, d ≤ p ∧ dv = .int .i64 d) (fun dv _ _ => p - (intOf dv).toNat)
        case atStart => exact ⟨0, Nat.zero_le _, rfl⟩
        case round =>
          obtain ⟨d, hd, rfl⟩ := hrel
          by_cases hdl : d < p
          · obtain ⟨b, off, rfl, hb, hc⟩ := HOP.out d hdl
            have hwb := HB3.out.size
            have cx := (World.cell?_of_block (HBE.out.block b (by rw [← HT3.out]; omega))).trans ((World.cell?_of_block (HB3.out.block b hb)).trans (hc d hdl))
            rw [HND.out d hdl] at cx
            have c1 := HO.out.get d hdl
            rw [HJ.out d hdl] at c1
            have hx := HNB.out d
            have hxn := Nat.mul_le_mul hx hn2
            have hpr : (nd zs d : Int) * (p : Int) = ((nd zs d * p : Nat) : Int) := rfl
            obtain ⟨z, hz⟩ : ∃ z, nd zs d * p = z := ⟨_, rfl⟩
            rw [hz] at hpr hxn c1
            clear hz hc
            generalize nd zs d = x at *
            go_wp2_with fail
            exact ⟨⟨d + 1, by omega, by go_num⟩, by simp [intOf]; omega⟩
          · obtain rfl : d = p := by omega
            go_wp2_with fail
            go_ret
            exact ⟨by simp, HB3.out.trans (HBE.out.mono (by rw [← HT3.out]; exact HB3.out.size))⟩
theorem walk (a0 : Option Addr) (len0 cap0 : Nat) (z0 : List Int) (w : World) (w0 : IsRow .i64 w a0 len0 cap0 z0) :
    Calls Try.prog 3 #[.slice a0 len0 cap0] w fun e w' => e = .returned (.bool true) ∧ Below w.heap.size w w' := by
  by_cases h : smE (z0.take len0) = 0
  · exact walk_ok _ _ w w0.rd.1 h
  · exact walk_bad _ _ w w0.rd.1 h
end Go.Proofs.Ytambhciacmkdoaa.aliasJust
