/- (*Int).CmpAbs: what it answers. No condition. -/
import Derived.Test.YtidnmdfpnmahpaaBigRead
import Derived.BigRegion
set_option linter.unusedSimpArgs false
set_option linter.unusedVariables false
set_option maxRecDepth 20000
namespace Go.Proofs.Ytidnmdfpnmahpaa.Big
open Go.RowKit
theorem val_split {ds : List Nat} {k : Nat} (h : k < ds.length) : val ds = val (ds.take k) + 4294967296 ^ k * (ds.getD k 0 + 4294967296 * val (ds.drop (k + 1))) := by
  have e : ds = ds.take k ++ (ds.getD k 0 :: ds.drop (k + 1)) := by
    rw [List.getD_eq_getElem?_getD, List.getElem?_eq_getElem h]
    show ds = ds.take k ++ (ds[k] :: ds.drop (k + 1))
    rw [← List.drop_eq_getElem_cons h, List.take_append_drop]
  conv => lhs; rw [e]
  rw [val_app, List.length_take, show min k ds.length = k by omega]
  rfl
theorem wd_take {ds : List Nat} (h : Wd ds) (k : Nat) : Wd (ds.take k) := fun x hx => h x (List.mem_of_mem_take hx)
theorem cmp_top {ds es : List Nat} (hd : Wd ds) (he : Wd es) {k : Nat} (h1 : k < ds.length) (h2 : k < es.length) (hu : ds.drop (k + 1) = es.drop (k + 1)) (hlt : ds.getD k 0 < es.getD k 0) : val ds < val es := by
  rw [val_split h1, val_split h2, hu]
  have b1 : val (ds.take k) < 4294967296 ^ k := by
    have := val_lt (wd_take hd k)
    rwa [List.length_take, show min k ds.length = k by omega] at this
  generalize 4294967296 ^ k = p at *
  generalize val (es.drop (k + 1)) = v at *
  have := Nat.mul_le_mul (Nat.le_refl p) (show ds.getD k 0 + 4294967296 * v + 1 ≤ es.getD k 0 + 4294967296 * v by omega)
  rw [Nat.mul_add] at this
  omega
theorem cmp_len {ds es : List Nat} (hd : Canon ds) (he : Canon es) (h : ds.length < es.length) : val ds < val es := by
  have h1 := (len_iff hd ds.length).1 (Nat.le_refl _)
  have h2 : ¬ val es < 4294967296 ^ ds.length := fun h3 => by
    have := (len_iff he ds.length).2 h3
    omega
  omega
def cmpN (X Y : Nat) : Int := if X < Y then -1 else if Y < X then 1 else 0
set_option maxHeartbeats 1600000 in
theorem cmp_any (xb xo yb yo : Nat) (nx ny : Bool) (X Y : Nat) (w : World) (hx : NA w xb xo nx X) (hy : NA w yb yo ny Y) :
    Calls Try.prog 45 #[.pointer (some ⟨xb, xo, none⟩), .pointer (some ⟨yb, yo, none⟩)] w fun e w' => e = .returned (.int .i64 (cmpN X Y)) ∧ Below w.heap.size w w' := by
  obtain ⟨a, c, ds, c0, c1, hrd, hcn, hv, h1, h2, h3⟩ := hx.open
  obtain ⟨a', c', es, c0', c1', hrd', hcn', hv', h1', h2', h3'⟩ := hy.open
  by_cases hl : ds.length = es.length
  · obtain ⟨n, hn⟩ : ∃ n, ds.length = n := ⟨_, rfl⟩
    have hm : es.length = n := by omega
    have HD := Lib.hid hrd
    have HE := Lib.hid hrd'
    rw [hn] at c1 h1 HD
    rw [hm] at c1' h1' HE
    have HT : Hid (∀ k, k < n → ds.drop (k + 1) = es.drop (k + 1) → ds.getD k 0 ≠ es.getD k 0 → cmpN X Y = if ds.getD k 0 < es.getD k 0 then -1 else 1) := fun k hk hu hne => by
      by_cases hlt : ds.getD k 0 < es.getD k 0
      · have := cmp_top hcn.wd hcn'.wd (by omega) (by omega) hu hlt
        rw [hv, hv'] at this
        rw [if_pos hlt]; unfold cmpN; rw [if_pos this]
      · have := cmp_top hcn'.wd hcn.wd (by omega) (by omega) hu.symm (show es.getD k 0 < ds.getD k 0 by omega)
        rw [hv, hv'] at this
        rw [if_neg hlt]; unfold cmpN; rw [if_neg (by omega), if_pos this]
    have HS : Hid (∀ k, k < n → ds.drop (k + 1) = es.drop (k + 1) → ds.getD k 0 = es.getD k 0 → ds.drop k = es.drop k) := fun k hk hu he => by
      rw [List.drop_eq_getElem_cons (show k < ds.length by omega), List.drop_eq_getElem_cons (show k < es.length by omega), hu]
      rw [List.getD_eq_getElem?_getD, List.getElem?_eq_getElem (show k < ds.length by omega), List.getD_eq_getElem?_getD, List.getElem?_eq_getElem (show k < es.length by omega)] at he
      have he' : ds[k] = es[k] := he
      rw [he']
    have HZ : Hid (ds.drop 0 = es.drop 0 → cmpN X Y = 0) := fun e => by
      have e' : ds = es := e
      unfold cmpN
      rw [← hv, ← hv', e', if_neg (Nat.lt_irrefl _), if_neg (Nat.lt_irrefl _)]
    have H0 : Hid (ds.drop n = es.drop n) := by show _ = _; rw [List.drop_of_length_le (by omega), List.drop_of_length_le (by omega)]
    clear hrd hcn hv h3 hrd' hcn' hv' h3' hl hx hy hn hm
    go_enter Try.func45, Try.ntmps45
    go_wp2_with fail
    go_quiet (fail)
    go_wp2_with fail
    go_loopw [5] (fun kv wr => ∃ k : Nat, k ≤ n ∧ kv = .int .i64 ((k : Int) - 1) ∧ Hid (ds.drop k = es.drop k) ∧ Hid (Below w.heap.size w wr)) (fun kv _ => (intOf kv + 1).toNat)
    case atStart => exact ⟨n, Nat.le_refl _, rfl, H0.out, (Below.refl _ _).drewN _⟩
    case round =>
      obtain ⟨k, hk, rfl, HU, HW⟩ := hrel
      rcases Nat.eq_zero_or_pos k with h0 | h0
      · subst h0
        go_wp2_with fail
        go_ret
        exact ⟨by rw [HZ.out HU.out]; rfl, HW.out⟩
      · obtain ⟨j, rfl⟩ : ∃ j, k = j + 1 := ⟨k - 1, by omega⟩
        obtain ⟨b, off, rfl, hb, hcc⟩ := HD.out.at (by omega)
        obtain ⟨b', off', rfl, hb', hcc'⟩ := HE.out.at (by omega)
        have cx : wr.cell? ⟨b, off + j, none⟩ = _ := (World.cell?_of_block (HW.out.block b hb)).trans (hcc j (by omega))
        have cy : wr.cell? ⟨b', off' + j, none⟩ = _ := (World.cell?_of_block (HW.out.block b' hb')).trans (hcc' j (by omega))
        have d1 : wr.cell? ⟨xb, xo + 1, none⟩ = _ := (World.cell?_of_block (HW.out.block xb (World.block_lt_of_cell? w _ c1))).trans c1
        have d1' : wr.cell? ⟨yb, yo + 1, none⟩ = _ := (World.cell?_of_block (HW.out.block yb (World.block_lt_of_cell? w _ c1'))).trans c1'
        have HT1 := Lib.hid (HT.out j (by omega) HU.out)
        have HS1 := Lib.hid (HS.out j (by omega) HU.out)
        have e1 : (((j + 1 : Nat) : Int) - 1) = (j : Int) := by omega
        have hjn : j < n := by omega
        have hjn2 : (j : Int) < (n : Int) := by omega
        clear hcc hcc' HU
        generalize ds.getD j 0 = x at *
        generalize es.getD j 0 = y at *
        by_cases hxy : x = y
        · have HS2 := Lib.hid (HS1.out hxy)
          subst hxy
          have q1 : ((x : Int) != (x : Int)) = false := by rw [bne_eq_false_iff_eq]
          clear HT1 HS1
          go_wp2_with fail
          go_quiet (fail)
          go_wp2_with fail
          go_roundw
          case rel => exact ⟨j, by omega, by go_num, HS2.out, HW.out.drewN _⟩
          case measure => simp [intOf]
        · have HT2 := Lib.hid (HT1.out hxy)
          have q1 : ((x : Int) != (y : Int)) = true := by rw [bne_iff_ne]; omega
          have q2 : ((x : Int) = (y : Int)) = False := eq_false (by omega)
          by_cases hlt : x < y
          · have q4 : decide ((x : Int) < (y : Int)) = true := decide_eq_true (by omega)
            have q5 : decide (x < y) = true := decide_eq_true hlt
            have HC : Hid (cmpN X Y = -1) := HT2.out.trans (if_pos hlt)
            clear HT1 HS1 HT2
            go_wp2_with fail
            go_quiet (fail)
            go_wp2_with fail
            go_quiet (fail)
            go_wp2_with fail
            go_ret
            exact ⟨by rw [HC.out]; rfl, (HW.out.drewN _).drewN _⟩
          · have q4 : decide ((x : Int) < (y : Int)) = false := decide_eq_false (by omega)
            have q5 : decide (x < y) = false := decide_eq_false hlt
            have HC : Hid (cmpN X Y = 1) := HT2.out.trans (if_neg hlt)
            clear HT1 HS1 HT2
            go_wp2_with fail
            go_quiet (fail)
            go_wp2_with fail
            go_quiet (fail)
            go_wp2_with fail
            go_ret
            exact ⟨by rw [HC.out]; rfl, (HW.out.drewN _).drewN _⟩
  · obtain ⟨n, hn⟩ : ∃ n, ds.length = n := ⟨_, rfl⟩
    obtain ⟨m, hm⟩ : ∃ m, es.length = m := ⟨_, rfl⟩
    have q1 : ((n : Int) != (m : Int)) = true := by rw [bne_iff_ne]; omega
    have q2 : ((n : Int) = (m : Int)) = False := eq_false (by omega)
    have q3 : (n = m) = False := eq_false (by omega)
    by_cases hlt : n < m
    · have hc : cmpN X Y = -1 := by unfold cmpN; rw [if_pos (by rw [← hv, ← hv']; exact cmp_len hcn hcn' (by omega))]
      have q4 : decide ((n : Int) < (m : Int)) = true := decide_eq_true (by omega)
      have q5 : decide (n < m) = true := decide_eq_true hlt
      rw [hc]
      rw [hn] at c1 h1
      rw [hm] at c1' h1'
      clear hrd hcn hv h3 hrd' hcn' hv' h3' hl hx hy hn hm hc
      go_enter Try.func45, Try.ntmps45
      go_wp2_with fail
      go_quiet (fail)
      go_wp2_with fail
      go_quiet (fail)
      go_wp2_with fail
      go_ret
      exact ⟨rfl, ((Below.refl _ _).drewN _).drewN _⟩
    · have hc : cmpN X Y = 1 := by
        have : val es < val ds := cmp_len hcn' hcn (by omega)
        unfold cmpN; rw [if_neg (by omega), if_pos (by omega)]
      have q4 : decide ((n : Int) < (m : Int)) = false := decide_eq_false (by omega)
      have q5 : decide (n < m) = false := decide_eq_false hlt
      rw [hc]
      rw [hn] at c1 h1
      rw [hm] at c1' h1'
      clear hrd hcn hv h3 hrd' hcn' hv' h3' hl hx hy hn hm hc
      go_enter Try.func45, Try.ntmps45
      go_wp2_with fail
      go_quiet (fail)
      go_wp2_with fail
      go_quiet (fail)
      go_wp2_with fail
      go_ret
      exact ⟨rfl, ((Below.refl _ _).drewN _).drewN _⟩
end Go.Proofs.Ytidnmdfpnmahpaa.Big
