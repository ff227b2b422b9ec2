/- lotdrawerref.sumOf: the sum of two rows of digits. Condition: no more than four digits. -/
import Derived.Test.YtidnmdfpnmahpaaBigAbs
set_option linter.unusedSimpArgs false
set_option linter.unusedVariables false
set_option maxRecDepth 20000
namespace Go.Proofs.Ytidnmdfpnmahpaa.Big
open Go.RowKit
theorem castN_set : ∀ (l : List Nat) (i x : Nat), (castN l).set i (x : Int) = castN (l.set i x) := fun l i x => by unfold castN; rw [List.map_set]
theorem val_take (l : List Nat) (k : Nat) : val (l.take (k + 1)) = val (l.take k) + 4294967296 ^ k * l.getD k 0 := by
  by_cases h : k < l.length
  · rw [take_last l k h, val_app, List.length_take, show min k l.length = k by omega]
    simp [val]
  · rw [List.take_of_length_le (by omega), List.take_of_length_le (by omega), List.getD_eq_getElem?_getD, List.getElem?_eq_none (by omega)]
    simp
theorem wd_set {l : List Nat} (h : Wd l) (k : Nat) {x : Nat} (hx : x < 4294967296) : Wd (l.set k x) := fun y hy => by
  rcases List.mem_or_eq_of_mem_set hy with h1 | h1
  · exact h y h1
  · rw [h1]; exact hx
theorem getD_set_ne (l : List Nat) {i k : Nat} (x : Nat) (h : i ≠ k) : (l.set k x).getD i 0 = l.getD i 0 := by
  rw [List.getD_eq_getElem?_getD, List.getElem?_set_ne (fun e => h e.symm), List.getD_eq_getElem?_getD]
theorem castN_zeros (n : Nat) : (List.replicate n (0 : Int)) = castN (List.replicate n 0) := by unfold castN; rw [List.map_replicate]; rfl
theorem val_zeros : ∀ n, val (List.replicate n 0) = 0
  | 0 => rfl
  | n + 1 => by rw [List.replicate_succ]; simp [val, val_zeros n]
theorem wd_zeros (n : Nat) : Wd (List.replicate n 0) := fun x hx => by
  rw [List.mem_replicate] at hx; rw [hx.2]; decide
theorem zeros_get (n i : Nat) : (List.replicate n 0).getD i 0 = 0 := by
  rw [List.getD_eq_getElem?_getD, List.getElem?_replicate]; split <;> rfl
/-- One digit more of a sum. -/
theorem sum_step {o' o p s q r x y c vx vy old B : Nat} (h1 : o' + p * old = o + p * r) (h0 : old = 0) (h2 : o + p * c = vx + vy) (h3 : r + B * q = s) (h4 : s = c + x + y) : o' + p * B * q = (vx + p * x) + (vy + p * y) := by
  subst h0 h4
  have e : p * (r + B * q) = p * (c + x + y) := by rw [h3]
  grind
/-- A row of digits of the call's own: what a call of sumOf, lessOf answers. -/
def RowP (w w' : World) (e : Ending) (V : Nat) : Prop := ∃ g n ds, e = .returned (.slice (some ⟨g, 0, none⟩) n n) ∧ w.heap.size ≤ g ∧ Rd w' (.slice (some ⟨g, 0, none⟩) n n) (castN ds) ∧ Wd ds ∧ val ds = V ∧ n ≤ 8 ∧ Below w.heap.size w w'
set_option maxHeartbeats 1600000 in
theorem sum_keep (a a' : Option Addr) (n c m c' : Nat) (xs ys : List Nat) (w : World) (hx : Rd w (.slice a n c) (castN xs)) (hy : Rd w (.slice a' m c') (castN ys)) (hxw : Wd xs) (hyw : Wd ys) (hn : n ≤ 4) (hm : m ≤ 4) (hnm : m ≤ n) :
    Calls Try.prog 49 #[.slice a n c, .slice a' m c'] w fun e w' => RowP w w' e (val xs + val ys) := by
  obtain ⟨i0, hi, hz0, hz1, hz2⟩ := info_parts Try.info67
  obtain ⟨hxl, hc1, hc2⟩ := hx.lenEq
  obtain ⟨hyl, hc3, hc4⟩ := hy.lenEq
  have HX := Lib.hid hx
  have HY := Lib.hid hy
  have HXW := Lib.hid hxw
  have HYW := Lib.hid hyw
  have HXL := Lib.hid hxl
  have HYL := Lib.hid hyl
  have q1 : decide ((n : Int) < (m : Int)) = false := decide_eq_false (by omega)
  have q2 : decide (n < m) = false := decide_eq_false (by omega)
  have b2 : i0.bytes * (n + 1) ≤ 281474976710656 := by rw [hz2]; omega
  have b3 : n + 1 ≤ maxLen := by unfold maxLen; omega
  have e0 : IntKind.i64.wrap ((n : Int) + 1) = (n : Int) + 1 := by rw [IntKind.wrap_i64]; omega
  clear hx hy hxw hyw hxl hyl
  go_enter Try.func49, Try.ntmps49
  go_wp2_with (refine wpList_make_full _ rfl _ _ 44 rfl w.heap.size 67 i0 (.int .u32 0) 1 Try.underlying44 hi hz0 hz1 .i64 .i64 _ _ (n + 1) rfl rfl ?hL ?hC b2 b3 (Nat.le_refl _) ?_)
  case hL => first | rfl | simp
  case hC => first | rfl | simp
  intro w2 hown hgr
  rw [zeros_eq, castN_zeros] at hown
  have HO := Lib.hid hown
  have HB := Lib.hid ((Below.refl w.heap.size w).grown hgr (Nat.le_refl _) (fun k hk => by cases hk))
  obtain ⟨g, hg⟩ : ∃ g, w.heap.size = g := ⟨_, rfl⟩
  have HG := Lib.hid hg
  rw [hg] at HO HB ⊢
  clear hown hgr hg b2 b3
  go_wp2_with fail
  go_loopw [22, 6] (fun kv cv wr => ∃ (k c : Nat) (o : List Nat), k ≤ n ∧ kv = .int .i64 k ∧ cv = .int .u64 c ∧ c ≤ 1 ∧ Hid (o.length = n + 1) ∧ Hid (Wd o) ∧ Hid (∀ i, k ≤ i → o.getD i 0 = 0) ∧ Hid (val o + 4294967296 ^ k * c = val (xs.take k) + val (ys.take k)) ∧ Hid (wr.ownsRow g 67 1 (.slice (some ⟨g, 0, none⟩) (n + 1) (n + 1)) (n + 1) ((castN o).map (Value.int .u32))) ∧ Hid (Below g w wr)) (fun kv _ _ => n - (intOf kv).toNat)
  case atStart => exact ⟨0, 0, List.replicate (n + 1) 0, Nat.zero_le _, rfl, rfl, Nat.zero_le _, by show _ = _; simp, wd_zeros _, fun i _ => zeros_get _ i, by show _ = _; rw [val_zeros]; simp [val], HO.out, HB.out⟩
  case round =>
    clear HO HB
    obtain ⟨k, c, o, hk, rfl, rfl, hc, HOL, HOW, HOZ, HV, HO, HB⟩ := hrel
    by_cases hlt : k < n
    · have hki : (k : Int) < (n : Int) := by omega
      obtain ⟨b, off, rfl, hb, hcc⟩ := HX.out.at (by omega)
      have cx : wr.cell? ⟨b, off + k, none⟩ = _ := (World.cell?_of_block (HB.out.block b (by rw [← HG.out]; exact hb))).trans (hcc k hlt)
      have hxl := getD_lt HXW.out k
      have co := own_get HO.out k (by omega)
      have fo := World.ownsRow.frozenAt HO.out k
      have HST : Hid (∀ s q r : Nat, s = c + xs.getD k 0 + ys.getD k 0 → r + 4294967296 * q = s → r < 4294967296 → Hid ((o.set k r).length = n + 1) ∧ Hid (Wd (o.set k r)) ∧ Hid (∀ i, k + 1 ≤ i → (o.set k r).getD i 0 = 0) ∧ Hid (val (o.set k r) + 4294967296 ^ (k + 1) * q = val (xs.take (k + 1)) + val (ys.take (k + 1))) ∧ Hid (World.ownsRow (wr.setCell ⟨g, k, none⟩ (.int .u32 (r : Int))) g 67 1 (.slice (some ⟨g, 0, none⟩) (n + 1) (n + 1)) (n + 1) ((castN (o.set k r)).map (Value.int .u32))) ∧ Hid (Below g w (wr.setCell ⟨g, k, none⟩ (.int .u32 (r : Int))))) := fun s q r h1 h2 h3 => by
        refine ⟨by show _ = _; rw [List.length_set]; exact HOL.out, wd_set HOW.out k h3, fun i hi => ?_, ?_, ?_, HB.out.setCell (Nat.le_refl _) _⟩
        · rw [getD_set_ne _ _ (by omega)]; exact HOZ.out i (by omega)
        · show _ = _
          rw [val_take, val_take, Nat.pow_succ]
          exact sum_step (val_set o k r (by rw [HOL.out]; omega)) (HOZ.out k (Nat.le_refl _)) HV.out h2 h1
        · have := own_set HO.out k (r : Int)
          rw [castN_set] at this
          exact this
      clear hcc
      by_cases hkm : k < m
      · have hkm2 : decide ((k : Int) < (m : Int)) = true := decide_eq_true (by omega)
        obtain ⟨b', off', rfl, hb', hcc'⟩ := HY.out.at (by omega)
        have cy : wr.cell? ⟨b', off' + k, none⟩ = _ := (World.cell?_of_block (HB.out.block b' (by rw [← HG.out]; exact hb'))).trans (hcc' k hkm)
        have hyl := getD_lt HYW.out k
        clear hcc'
        generalize xs.getD k 0 = x at *
        generalize ys.getD k 0 = y at *
        obtain ⟨s, hs⟩ : ∃ s, c + x + y = s := ⟨_, rfl⟩
        obtain ⟨q, hqe⟩ : ∃ q, s / 4294967296 = q := ⟨_, rfl⟩
        obtain ⟨r, hre⟩ : ∃ r, s % 4294967296 = r := ⟨_, rfl⟩
        have HD := Lib.hid (HST.out s q r hs.symm (by omega) (by omega))
        have e0 : (c : Int) + (x : Int) + (y : Int) = (s : Int) := by omega
        have e1 : IntKind.u64.wrap ((c : Int) + (x : Int)) = (c : Int) + (x : Int) := by rw [IntKind.wrap_u64]; omega
        have e2 : IntKind.u64.wrap ((c : Int) + (x : Int) + (y : Int)) = (s : Int) := by rw [IntKind.wrap_u64]; omega
        have e3 : IntKind.u32.wrap (s : Int) = (r : Int) := by rw [IntKind.wrap_u32]; omega
        have e4 : (s : Int) / 4294967296 = (q : Int) := by omega
        have hq : q ≤ 1 := by omega
        clear HST hs e0 hqe hre
        go_wp2_with fail
        go_roundw
        case rel => exact ⟨k + 1, q, o.set k r, by omega, by go_num, rfl, hq, HD.out⟩
        case measure => simp [intOf]; omega
      · have hkm2 : decide ((k : Int) < (m : Int)) = false := decide_eq_false (by omega)
        have hy0 : ys.getD k 0 = 0 := by rw [List.getD_eq_getElem?_getD, List.getElem?_eq_none (by rw [HYL.out]; omega)]; rfl
        rw [hy0] at HST
        generalize xs.getD k 0 = x at *
        obtain ⟨s, hs⟩ : ∃ s, c + x = s := ⟨_, rfl⟩
        obtain ⟨q, hqe⟩ : ∃ q, s / 4294967296 = q := ⟨_, rfl⟩
        obtain ⟨r, hre⟩ : ∃ r, s % 4294967296 = r := ⟨_, rfl⟩
        have HD := Lib.hid (HST.out s q r (by omega) (by omega) (by omega))
        have e1 : IntKind.u64.wrap ((c : Int) + (x : Int)) = (s : Int) := by rw [IntKind.wrap_u64]; omega
        have e3 : IntKind.u32.wrap (s : Int) = (r : Int) := by rw [IntKind.wrap_u32]; omega
        have e4 : (s : Int) / 4294967296 = (q : Int) := by omega
        have hq : q ≤ 1 := by omega
        clear HST hs hy0 hqe hre
        go_wp2_with fail
        go_roundw
        case rel => exact ⟨k + 1, q, o.set k r, by omega, by go_num, rfl, hq, HD.out⟩
        case measure => simp [intOf]; omega
    · obtain rfl : k = n := by omega
      have co := own_get HO.out k (by omega)
      have fo := World.ownsRow.frozenAt HO.out k
      have e3 : IntKind.u32.wrap (c : Int) = (c : Int) := by rw [IntKind.wrap_u32]; omega
      have i1 : (k : Int) < (k : Int) + 1 := by omega
      have HR : Hid (Rd (wr.setCell ⟨g, k, none⟩ (.int .u32 (c : Int))) (.slice (some ⟨g, 0, none⟩) (k + 1) (k + 1)) (castN (o.set k c))) := by
        have := own_set HO.out k (c : Int)
        rw [castN_set] at this
        exact Rd.own this
      have HVE : Hid (val (o.set k c) = val xs + val ys) := by
        show _ = _
        have h1 := val_set o k c (by rw [HOL.out]; omega)
        rw [HOZ.out k (Nat.le_refl _)] at h1
        have h2 := HV.out
        rw [List.take_of_length_le (by rw [HXL.out]; exact Nat.le_refl _), List.take_of_length_le (by rw [HYL.out]; omega)] at h2
        omega
      have HBE := Lib.hid (HB.out.setCell (p := ⟨g, k, none⟩) (Nat.le_refl _) (.int .u32 (c : Int)))
      have hwc : Wd (o.set k c) := wd_set HOW.out k (by omega)
      have HWC := Lib.hid hwc
      clear hwc
      go_wp2_with fail
      go_ret
      exact ⟨g, k + 1, o.set k c, rfl, by rw [HG.out]; exact Nat.le_refl _, HR.out, HWC.out, HVE.out, by omega, by rw [HG.out]; exact HBE.out⟩
set_option maxHeartbeats 1600000 in
theorem sum_swap (a a' : Option Addr) (n c m c' : Nat) (xs ys : List Nat) (w : World) (hx : Rd w (.slice a n c) (castN xs)) (hy : Rd w (.slice a' m c') (castN ys)) (hxw : Wd xs) (hyw : Wd ys) (hn : n ≤ 4) (hm : m ≤ 4) (hnm : n < m) :
    Calls Try.prog 49 #[.slice a n c, .slice a' m c'] w fun e w' => RowP w w' e (val xs + val ys) := by
  obtain ⟨i0, hi, hz0, hz1, hz2⟩ := info_parts Try.info67
  obtain ⟨hxl, hc1, hc2⟩ := hx.lenEq
  obtain ⟨hyl, hc3, hc4⟩ := hy.lenEq
  have HY := Lib.hid hx
  have HX := Lib.hid hy
  have HYW := Lib.hid hxw
  have HXW := Lib.hid hyw
  have HYL := Lib.hid hxl
  have HXL := Lib.hid hyl
  have q1 : decide ((n : Int) < (m : Int)) = true := decide_eq_true (by omega)
  have q2 : decide (n < m) = true := decide_eq_true (by omega)
  have b2 : i0.bytes * (m + 1) ≤ 281474976710656 := by rw [hz2]; omega
  have b3 : m + 1 ≤ maxLen := by unfold maxLen; omega
  have e0 : IntKind.i64.wrap ((m : Int) + 1) = (m : Int) + 1 := by rw [IntKind.wrap_i64]; omega
  clear hx hy hxw hyw hxl hyl
  go_enter Try.func49, Try.ntmps49
  go_wp2_with (refine wpList_make_full _ rfl _ _ 44 rfl w.heap.size 67 i0 (.int .u32 0) 1 Try.underlying44 hi hz0 hz1 .i64 .i64 _ _ (m + 1) rfl rfl ?hL ?hC b2 b3 (Nat.le_refl _) ?_)
  case hL => first | rfl | simp
  case hC => first | rfl | simp
  intro w2 hown hgr
  rw [zeros_eq, castN_zeros] at hown
  have HO := Lib.hid hown
  have HB := Lib.hid ((Below.refl w.heap.size w).grown hgr (Nat.le_refl _) (fun k hk => by cases hk))
  obtain ⟨g, hg⟩ : ∃ g, w.heap.size = g := ⟨_, rfl⟩
  have HG := Lib.hid hg
  rw [hg] at HO HB ⊢
  clear hown hgr hg b2 b3
  go_wp2_with fail
  go_loopw [22, 6] (fun kv cv wr => ∃ (k c : Nat) (o : List Nat), k ≤ m ∧ kv = .int .i64 k ∧ cv = .int .u64 c ∧ c ≤ 1 ∧ Hid (o.length = m + 1) ∧ Hid (Wd o) ∧ Hid (∀ i, k ≤ i → o.getD i 0 = 0) ∧ Hid (val o + 4294967296 ^ k * c = val (ys.take k) + val (xs.take k)) ∧ Hid (wr.ownsRow g 67 1 (.slice (some ⟨g, 0, none⟩) (m + 1) (m + 1)) (m + 1) ((castN o).map (Value.int .u32))) ∧ Hid (Below g w wr)) (fun kv _ _ => m - (intOf kv).toNat)
  case atStart => exact ⟨0, 0, List.replicate (m + 1) 0, Nat.zero_le _, rfl, rfl, Nat.zero_le _, by show _ = _; simp, wd_zeros _, fun i _ => zeros_get _ i, by show _ = _; rw [val_zeros]; simp [val], HO.out, HB.out⟩
  case round =>
    clear HO HB
    obtain ⟨k, c, o, hk, rfl, rfl, hc, HOL, HOW, HOZ, HV, HO, HB⟩ := hrel
    by_cases hlt : k < m
    · have hki : (k : Int) < (m : Int) := by omega
      obtain ⟨b, off, rfl, hb, hcc⟩ := HX.out.at (by omega)
      have cx : wr.cell? ⟨b, off + k, none⟩ = _ := (World.cell?_of_block (HB.out.block b (by rw [← HG.out]; exact hb))).trans (hcc k hlt)
      have hxl := getD_lt HXW.out k
      have co := own_get HO.out k (by omega)
      have fo := World.ownsRow.frozenAt HO.out k
      have HST : Hid (∀ s q r : Nat, s = c + ys.getD k 0 + xs.getD k 0 → r + 4294967296 * q = s → r < 4294967296 → Hid ((o.set k r).length = m + 1) ∧ Hid (Wd (o.set k r)) ∧ Hid (∀ i, k + 1 ≤ i → (o.set k r).getD i 0 = 0) ∧ Hid (val (o.set k r) + 4294967296 ^ (k + 1) * q = val (ys.take (k + 1)) + val (xs.take (k + 1))) ∧ Hid (World.ownsRow (wr.setCell ⟨g, k, none⟩ (.int .u32 (r : Int))) g 67 1 (.slice (some ⟨g, 0, none⟩) (m + 1) (m + 1)) (m + 1) ((castN (o.set k r)).map (Value.int .u32))) ∧ Hid (Below g w (wr.setCell ⟨g, k, none⟩ (.int .u32 (r : Int))))) := fun s q r h1 h2 h3 => by
        refine ⟨by show _ = _; rw [List.length_set]; exact HOL.out, wd_set HOW.out k h3, fun i hi => ?_, ?_, ?_, HB.out.setCell (Nat.le_refl _) _⟩
        · rw [getD_set_ne _ _ (by omega)]; exact HOZ.out i (by omega)
        · show _ = _
          rw [val_take, val_take, Nat.pow_succ]
          exact sum_step (val_set o k r (by rw [HOL.out]; omega)) (HOZ.out k (Nat.le_refl _)) HV.out h2 h1
        · have := own_set HO.out k (r : Int)
          rw [castN_set] at this
          exact this
      clear hcc
      by_cases hkm : k < n
      · have hkm2 : decide ((k : Int) < (n : Int)) = true := decide_eq_true (by omega)
        obtain ⟨b', off', rfl, hb', hcc'⟩ := HY.out.at (by omega)
        have cy : wr.cell? ⟨b', off' + k, none⟩ = _ := (World.cell?_of_block (HB.out.block b' (by rw [← HG.out]; exact hb'))).trans (hcc' k hkm)
        have hyl := getD_lt HYW.out k
        clear hcc'
        generalize ys.getD k 0 = x at *
        generalize xs.getD k 0 = y at *
        obtain ⟨s, hs⟩ : ∃ s, c + x + y = s := ⟨_, rfl⟩
        obtain ⟨q, hqe⟩ : ∃ q, s / 4294967296 = q := ⟨_, rfl⟩
        obtain ⟨r, hre⟩ : ∃ r, s % 4294967296 = r := ⟨_, rfl⟩
        have HD := Lib.hid (HST.out s q r hs.symm (by omega) (by omega))
        have e0 : (c : Int) + (x : Int) + (y : Int) = (s : Int) := by omega
        have e1 : IntKind.u64.wrap ((c : Int) + (x : Int)) = (c : Int) + (x : Int) := by rw [IntKind.wrap_u64]; omega
        have e2 : IntKind.u64.wrap ((c : Int) + (x : Int) + (y : Int)) = (s : Int) := by rw [IntKind.wrap_u64]; omega
        have e3 : IntKind.u32.wrap (s : Int) = (r : Int) := by rw [IntKind.wrap_u32]; omega
        have e4 : (s : Int) / 4294967296 = (q : Int) := by omega
        have hq : q ≤ 1 := by omega
        clear HST hs e0 hqe hre
        go_wp2_with fail
        go_roundw
        case rel => exact ⟨k + 1, q, o.set k r, by omega, by go_num, rfl, hq, HD.out⟩
        case measure => simp [intOf]; omega
      · have hkm2 : decide ((k : Int) < (n : Int)) = false := decide_eq_false (by omega)
        have hy0 : xs.getD k 0 = 0 := by rw [List.getD_eq_getElem?_getD, List.getElem?_eq_none (by rw [HYL.out]; omega)]; rfl
        rw [hy0] at HST
        generalize ys.getD k 0 = x at *
        obtain ⟨s, hs⟩ : ∃ s, c + x = s := ⟨_, rfl⟩
        obtain ⟨q, hqe⟩ : ∃ q, s / 4294967296 = q := ⟨_, rfl⟩
        obtain ⟨r, hre⟩ : ∃ r, s % 4294967296 = r := ⟨_, rfl⟩
        have HD := Lib.hid (HST.out s q r (by omega) (by omega) (by omega))
        have e1 : IntKind.u64.wrap ((c : Int) + (x : Int)) = (s : Int) := by rw [IntKind.wrap_u64]; omega
        have e3 : IntKind.u32.wrap (s : Int) = (r : Int) := by rw [IntKind.wrap_u32]; omega
        have e4 : (s : Int) / 4294967296 = (q : Int) := by omega
        have hq : q ≤ 1 := by omega
        clear HST hs hy0 hqe hre
        go_wp2_with fail
        go_roundw
        case rel => exact ⟨k + 1, q, o.set k r, by omega, by go_num, rfl, hq, HD.out⟩
        case measure => simp [intOf]; omega
    · obtain rfl : k = m := by omega
      have co := own_get HO.out k (by omega)
      have fo := World.ownsRow.frozenAt HO.out k
      have e3 : IntKind.u32.wrap (c : Int) = (c : Int) := by rw [IntKind.wrap_u32]; omega
      have i1 : (k : Int) < (k : Int) + 1 := by omega
      have HR : Hid (Rd (wr.setCell ⟨g, k, none⟩ (.int .u32 (c : Int))) (.slice (some ⟨g, 0, none⟩) (k + 1) (k + 1)) (castN (o.set k c))) := by
        have := own_set HO.out k (c : Int)
        rw [castN_set] at this
        exact Rd.own this
      have HVE : Hid (val (o.set k c) = val ys + val xs) := by
        show _ = _
        have h1 := val_set o k c (by rw [HOL.out]; omega)
        rw [HOZ.out k (Nat.le_refl _)] at h1
        have h2 := HV.out
        rw [List.take_of_length_le (by rw [HXL.out]; exact Nat.le_refl _), List.take_of_length_le (by rw [HYL.out]; omega)] at h2
        omega
      have HBE := Lib.hid (HB.out.setCell (p := ⟨g, k, none⟩) (Nat.le_refl _) (.int .u32 (c : Int)))
      have hwc : Wd (o.set k c) := wd_set HOW.out k (by omega)
      have HWC := Lib.hid hwc
      clear hwc
      go_wp2_with fail
      go_ret
      exact ⟨g, k + 1, o.set k c, rfl, by rw [HG.out]; exact Nat.le_refl _, HR.out, HWC.out, by rw [HVE.out, Nat.add_comm], by omega, by rw [HG.out]; exact HBE.out⟩
theorem sum_any (a a' : Option Addr) (n c m c' : Nat) (xs ys : List Nat) (w : World) (hx : Rd w (.slice a n c) (castN xs)) (hy : Rd w (.slice a' m c') (castN ys)) (hxw : Wd xs) (hyw : Wd ys) (hn : n ≤ 4) (hm : m ≤ 4) :
    Calls Try.prog 49 #[.slice a n c, .slice a' m c'] w fun e w' => RowP w w' e (val xs + val ys) := by
  rcases Nat.lt_or_ge n m with h | h
  · exact sum_swap a a' n c m c' xs ys w hx hy hxw hyw hn hm h
  · exact sum_keep a a' n c m c' xs ys w hx hy hxw hyw hn hm h
end Go.Proofs.Ytidnmdfpnmahpaa.Big
