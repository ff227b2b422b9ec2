/- lotdrawerref.XEach, XFirst: what they answer. Condition: rows of 2^n bits, n at most 10. -/
import Derived.Test.YtoinpfcmolkhiaaDoorMapB
import Derived.Test.YtoinpfcmolkhiaaDoorEachL
import Derived.Test.YtoinpfcmolkhiaaDoorLeast
set_option linter.unusedSimpArgs false
set_option linter.unusedVariables false
namespace Go.Proofs.YtoinpfcmolkhiaaDoor
open Go.RowKit Go.Maps
theorem two_le (n : Nat) (h : n ≤ 10) : 2 ^ n ≤ 1024 := Nat.pow_le_pow_right (by decide) h
set_option maxHeartbeats 1600000 in
set_option maxRecDepth 20000 in
theorem xeach_any (a : Option Addr) (q n c : Nat) (zs : List Bool) (w : World) (h : RdB w (.slice a q c) zs) (hq : q = 2 ^ n) (hn : n ≤ 10) :
    Calls Tryd.prog 11 #[.slice a q c, .int .i64 n] w fun e w' => e = .returned (.bool (xeach zs n)) ∧ Below w.heap.size w w' := by
  have hb := two_le n hn
  rw [← hq] at hb
  have hq1 : 1 ≤ q := by rw [hq]; exact Nat.one_le_two_pow
  obtain ⟨hl, hm1, hm2⟩ := h.lenEq
  obtain ⟨b0, off, rfl, hb0, hc⟩ := h.at (by omega)
  have HC := Lib.hid hc
  have HXE : Hid (xeach zs n = xl n q ((zs ++ zs).drop 0) 0) := by
    show _ = _
    unfold xeach
    rw [decide_eq_true (hl.trans hq), hl]; rfl
  have HWL : Hid (∀ l, wl n l 0 < q) := fun l => by have := wl_lt n l 0; rw [hq]; simpa using this
  have HDR : Hid (∀ k, k < q + q → (zs ++ zs).drop k = zs.getD (k % q) false :: (zs ++ zs).drop (k + 1)) := fun k hk => by
    have := twice_drop zs k (by rw [hl]; exact hk)
    rwa [hl] at this
  have HXL : Hid (∀ k l m, xl n (k + 1) l m = if m.testBit (wl n l 0) then false else xl n k l.tail (m ||| 2 ^ wl n l 0)) := fun k l m => rfl
  have HXZ : Hid (∀ l m, xl n 0 l m = true) := fun l m => rfl
  have HWS : Hid (∀ j b r a, wl (j + 1) (b :: r) a = wl j r (a * 2 + if b then 1 else 0)) := fun j b r a => rfl
  have HNQ : Hid (n < q) := by show n < q; rw [hq]; exact Nat.lt_two_pow_self
  have HWZ : Hid (∀ l a, wl 0 l a = a) := fun l a => rfl
  have hp : (2 : Int) ^ n = (q : Int) := by rw [hq, Int.natCast_pow]; rfl
  have hp1 : IntKind.i64.wrap (q : Int) = (q : Int) := by rw [IntKind.wrap_i64]; omega
  have hp2 : wrap64 (q : Int) = (q : Int) := by unfold wrap64; omega
  have hpn : ((q : Int) != (q : Int)) = false := by simp
  have hmm := @run_makeMap Tryd.prog
  clear hc h hl hq
  go_enter Tryd.func11, Tryd.ntmps11
  go_wp2_with fail
  have HM0 : Hid (MS (w.alloc (.map #[] 0)) w.heap.size 0 0) := MS.made w
  have HB0 : Hid (Below w.heap.size w (w.alloc (.map #[] 0))) := (Below.refl _ _).alloc (Nat.le_refl _) _
  clear hmm
  generalize w.alloc (.map #[] 0) = w0 at *
  go_loopw [17] (fun kv wr => ∃ k m : Nat, k ≤ q ∧ kv = .int .i64 k ∧ Hid (MS wr w.heap.size k m) ∧ Hid (xeach zs n = xl n (q - k) ((zs ++ zs).drop k) m) ∧ Hid (Below w.heap.size w wr)) (fun kv _ => q - (intOf kv).toNat)
  case atStart => exact ⟨0, 0, Nat.zero_le _, rfl, HM0.out, HXE.out, HB0.out⟩
  case round =>
    clear HM0 HB0 HXE
    obtain ⟨k, m, hk, rfl, HM, HX, HB⟩ := hrel
    by_cases hkl : k < q
    · have hkI : (k : Int) < (q : Int) := by omega
      have HXk := Lib.hid (HXL.out (q - (k + 1)) ((zs ++ zs).drop k) m)
      rw [show q - (k + 1) + 1 = q - k by omega] at HXk
      have HDk : Hid (((zs ++ zs).drop k).tail = (zs ++ zs).drop (k + 1)) := by show _ = _; rw [HDR.out k (by omega)]; rfl
      have HWLk := Lib.hid (HWL.out ((zs ++ zs).drop k))
      obtain ⟨wk, rfl⟩ : ∃ wk : World, wk = wr := ⟨_, rfl⟩
      go_wp2_with fail
      go_loop [21, 7] (fun iv vv => ∃ i v : Nat, i ≤ n ∧ iv = .int .i64 i ∧ vv = .int .i64 v ∧ Hid (v < 2 ^ i) ∧ Hid (wl n ((zs ++ zs).drop k) 0 = wl (n - i) ((zs ++ zs).drop (k + i)) v)) (fun iv _ => n - (intOf iv).toNat)
      case atStart => exact ⟨0, 0, Nat.zero_le _, rfl, rfl, by show 0 < 1; decide, rfl⟩
      case round =>
        obtain ⟨i, v, hi, rfl, rfl, HV, HL⟩ := hrel
        by_cases hil : i < n
        · have hiI : (i : Int) < (n : Int) := by omega
          have hv := HV.out
          have hv2 := two_le i (by omega)
          have hv3 : v < 1024 := by omega
          have hd := HDR.out (k + i) (by have := HNQ.out; omega)
          have hws := HWS.out (n - (i + 1)) (zs.getD ((k + i) % q) false) ((zs ++ zs).drop (k + i + 1)) v
          rw [← hd, show n - (i + 1) + 1 = n - i by omega] at hws
          have HLn := Lib.hid (HL.out.trans hws)
          have hql : (k + i) % q < q := Nat.mod_lt _ (by omega)
          have cx : wk.cell? ⟨b0, off + (k + i) % q, none⟩ = some (.bool (zs.getD ((k + i) % q) false)) := (World.cell?_of_block (HB.out.block b0 hb0)).trans (HC.out _ hql)
          have hmod : ((k : Int) + (i : Int)) % (q : Int) = (((k + i) % q : Nat) : Int) := rfl
          have HVS : Hid (2 ^ (i + 1) = 2 ^ i * 2) := Nat.pow_succ _ _
          generalize (k + i) % q = p at *
          generalize zs.getD p false = x at *
          have hpI : (p : Int) < (q : Int) := by omega
          clear hd hws hv hv2
          cases x with
          | true =>
            go_wp2_with fail
            go_round
            case rel => exact ⟨i + 1, v * 2 + 1, by omega, by go_num, by go_num, by have := HV.out; have := HVS.out; show _ < _; omega, HLn.out⟩
            case measure => simp [intOf]; omega
          | false =>
            go_wp2_with fail
            go_round
            case rel => exact ⟨i + 1, v * 2, by omega, by go_num, by go_num, by have := HV.out; have := HVS.out; show _ < _; omega, HLn.out⟩
            case measure => simp [intOf]; omega
        · obtain rfl : i = n := by omega
          have HVE : Hid (wl i ((zs ++ zs).drop k) 0 = v) := by show _ = _; rw [HL.out, Nat.sub_self]; rfl
          have hvq : v < q := by have := HWLk.out; rwa [HVE.out] at this
          rw [HVE.out] at HXk
          obtain ⟨D, hD1, hD2, hD3⟩ := HM.out
          have HD1 := Lib.hid hD1
          have HD2 := Lib.hid hD2
          have HD3 := Lib.hid hD3
          have hkey : keyOf Tryd.prog 3 (.int .i64 v) = some (.int .i64 v) := keyOf_int_mk Tryd.underlying3 (Go.WalkArith.wf_i64 (by omega))
          have HKEY := Lib.hid hkey
          clear hD1 hD2 hD3 hkey
          obtain ⟨cv, hrun, hat⟩ := lookup_bool HD1.out key3 Tryd.underlying41 Tryd.underlying4 (zero4 _) HKEY.out
          have hcc : cv = m.testBit v := by
            have := HD3.out v
            rw [hat] at this
            simpa using this
          subst hcc
          clear hat
          cases htb : m.testBit v with
          | true =>
            rw [htb] at hrun
            have HXF : Hid (xeach zs i = false) := by show _ = _; rw [HX.out, HXk.out, htb]; rfl
            clear htb
            go_wp2_with fail
            go_ret
            exact ⟨by rw [HXF.out]; rfl, HB.out⟩
          | false =>
            rw [htb] at hrun
            have HXn : Hid (xeach zs i = xl i (q - (k + 1)) ((zs ++ zs).drop (k + 1)) (m ||| 2 ^ v)) := by
              show _ = _
              rw [HX.out, HXk.out, htb, HDk.out]; rfl
            obtain ⟨w9, hup, ho9, hg9⟩ := HD1.out.update key3 Tryd.underlying41 (by unfold maxLen; omega) HKEY.out (val := .bool true) (plainElem_bool Tryd.underlying4 true)
            have HM9 : Hid (MS w9 w.heap.size (k + 1) (m ||| 2 ^ v)) := MS.put HD2.out HD3.out ho9
            have HB9 : Hid (Below w.heap.size w w9) := HB.out.grown hg9 HB.out.size (fun x hx => by cases hx; exact Nat.le_refl _)
            clear htb ho9 hg9
            go_wp2_with fail
            exact ⟨⟨k + 1, _, by omega, by go_num, HM9.out, HXn.out, HB9.out⟩, by simp [intOf]; omega⟩
    · obtain rfl : k = q := by omega
      have HXT : Hid (xeach zs n = true) := by show _ = _; rw [HX.out, Nat.sub_self, HXZ.out]
      go_wp2_with fail
      go_ret
      exact ⟨by rw [HXT.out]; rfl, HB.out⟩
theorem firstX_lt : ∀ n, n < 5 → firstX n < 2 ^ 2 ^ n ∧ 2 ^ 2 ^ n ≤ 65536 := by decide
theorem fst_parts {n X : Nat} (h : fst n X = true) : (∀ x, x < X → xeach (tabB (2 ^ n) (bitf x (2 ^ n))) n = false) ∧ xeach (tabB (2 ^ n) (bitf X (2 ^ n))) n = true ∧ tabB (2 ^ n) (bitf X (2 ^ n)) = bruN n := by
  unfold fst at h
  rw [Bool.and_eq_true, Bool.and_eq_true, List.all_eq_true, beq_iff_eq] at h
  exact ⟨fun x hx => by simpa using h.1.1 x (List.mem_range.2 hx), h.1.2, h.2⟩
set_option maxHeartbeats 1600000 in
set_option maxRecDepth 20000 in
theorem xfirst_any (n : Nat) (w : World) (hn : n < 5) :
    Calls Tryd.prog 13 #[.int .i64 n] w fun e w' => Below w.heap.size w w' ∧ ∃ v, e = .returned v ∧ RdB w' v (bruN n) := by
  obtain ⟨h1, h2, h3⟩ := fst_parts (first_ok n hn)
  obtain ⟨hX, hQ⟩ := firstX_lt n hn
  have h16 : 2 ^ n ≤ 16 := Nat.pow_le_pow_right (by decide) (show n ≤ 4 by omega)
  generalize firstX n = X at *
  obtain ⟨q, hq⟩ : ∃ q, 2 ^ n = q := ⟨_, rfl⟩
  have HQ := Lib.hid hq
  rw [hq] at h1 h2 h3 hX hQ h16
  have hp : (2 : Int) ^ n = (q : Int) := by rw [← hq, Int.natCast_pow]; rfl
  obtain ⟨Q, hQe⟩ : ∃ Q, 2 ^ q = Q := ⟨_, rfl⟩
  rw [hQe] at hX hQ
  have hpQ : (2 : Int) ^ q = (Q : Int) := by rw [← hQe, Int.natCast_pow]; rfl
  have hp1 : IntKind.i64.wrap (q : Int) = (q : Int) := by rw [IntKind.wrap_i64]; omega
  have hp2 : wrap64 (q : Int) = (q : Int) := by unfold wrap64; omega
  have hp3 : IntKind.i64.wrap (Q : Int) = (Q : Int) := by rw [IntKind.wrap_i64]; omega
  have hp4 : wrap64 (Q : Int) = (Q : Int) := by unfold wrap64; omega
  have H1 := Lib.hid h1
  have H2 := Lib.hid h2
  have H3 := Lib.hid h3
  clear h1 h2 h3 hq hQe
  go_enter Tryd.func13, Tryd.ntmps13
  go_wp2_with fail
  go_loopw [11, 4] (fun xv bv wr => ∃ x : Nat, x ≤ X ∧ xv = .int .i64 x ∧ bv = .slice none 0 0 ∧ Hid (Below w.heap.size w wr)) (fun xv _ _ => Q - (intOf xv).toNat)
  case atStart => exact ⟨0, Nat.zero_le _, rfl, rfl, Below.refl _ _⟩
  case round =>
    obtain ⟨x, hx, rfl, rfl, HB⟩ := hrel
    have hxQ : x < Q := by omega
    have hxI : (x : Int) < (Q : Int) := by omega
    go_wp2_with fail
    refine (bits_any x q (by omega) (by omega) _).mono ?_
    rintro e w2 ⟨hb2, v2, rfl, hr2⟩
    obtain ⟨a2, c2, rfl, -, -⟩ := hr2.slice
    rw [tabB_len] at hr2 ⊢
    have HB2 := Lib.hid (HB.out.trans (hb2.mono HB.out.size))
    have HR2 := Lib.hid hr2
    clear hb2 hr2
    go_wp2_with fail
    refine (xeach_any a2 q n c2 _ _ HR2.out HQ.out.symm (by omega)).mono ?_
    rintro e w3 ⟨rfl, hb3⟩
    have HB3 := Lib.hid (HB2.out.trans (hb3.mono HB2.out.size))
    have HR3 := Lib.hid (HR2.out.below hb3 (Nat.le_refl _))
    clear hb3
    by_cases hxX : x < X
    · rw [H1.out x hxX]
      go_wp2_with fail
      go_roundw
      case rel => exact ⟨x + 1, by omega, by go_num, rfl, HB3.out⟩
      case measure => simp [intOf]; omega
    · obtain rfl : x = X := by omega
      rw [H2.out]
      go_wp2_with fail
      go_ret
      exact ⟨HB3.out, _, rfl, by rw [← H3.out]; exact HR3.out⟩
end Go.Proofs.YtoinpfcmolkhiaaDoor
