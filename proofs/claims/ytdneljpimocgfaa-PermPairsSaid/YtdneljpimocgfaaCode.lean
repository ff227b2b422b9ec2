/- perm.Code and perm.Rank: what they answer. No condition. -/
import Derived.Test.YtdneljpimocgfaaThen
set_option linter.unusedSimpArgs false
set_option linter.unusedVariables false
namespace Go.Proofs.Ytdneljpimocgfaa
open Go.RowKit
/-- How many of the m behind the k-th are less. -/
def cn (f : Nat → Nat) (k : Nat) : Nat → Nat
  | 0 => 0
  | m + 1 => cn f k m + if f (k + 1 + m) < f k then 1 else 0
theorem cn_le (f : Nat → Nat) (k : Nat) : ∀ m, cn f k m ≤ m
  | 0 => Nat.le_refl _
  | m + 1 => by have := cn_le f k m; rw [cn]; split <;> omega
def cd (f : Nat → Nat) (n k : Nat) : Nat := cn f k (n - 1 - k)
theorem cd_le (f : Nat → Nat) (n k : Nat) : cd f n k ≤ n - 1 - k := cn_le _ _ _
theorem code_bad (v : Value) (zs : List Int) (w : World) (h : Rd w v zs) (hno : ¬ OkP zs) :
    Calls Try.prog 13 #[v] w fun e w' => Below w.heap.size w w' ∧ e = .returned (.tuple #[.slice none 0 0, .int .i64 1]) := by
  have HR := Lib.hid (fun w h => right_any v zs w h)
  rw [decide_eq_false hno] at HR
  have H1 := Lib.hid h
  clear h hno
  go_enter Try.func13, Try.ntmps13
  go_wp2_with fail
  refine (HR.out _ H1.out).mono ?_
  rintro e w1 ⟨rfl, hb1⟩
  have HB1 := Lib.hid hb1
  clear hb1
  go_wp2_with fail
  go_ret2
  exact ⟨HB1.out, rfl⟩
set_option maxHeartbeats 1600000 in
theorem code_ok (v : Value) (zs : List Int) (w : World) (h : Rd w v zs) (k1 : OkP zs) :
    Calls Try.prog 13 #[v] w fun e w' => Below w.heap.size w w' ∧ ∃ u, e = .returned (.tuple #[u, .int .i64 0]) ∧ Rd w' u (tabI zs.length (cd (nd zs) zs.length)) := by
  obtain ⟨i0, hinfo, hz0, hz1, hz2⟩ := info_parts Try.info3t
  have HR := Lib.hid (fun w h => right_any v zs w h)
  rw [decide_eq_true k1] at HR
  have H1 := Lib.hid h
  have hn := k1.1
  obtain ⟨a, cap, rfl, hlc, hcm, hop⟩ := h.open
  have HOP := Lib.hid hop
  have HND : Hid (∀ k, k < zs.length → zs.getD k 0 = (nd zs k : Int)) := fun k hk => k1.nd hk
  generalize zs.length = n at *
  clear h hop k1
  go_enter Try.func13, Try.ntmps13
  go_wp2_with fail
  refine (HR.out _ H1.out).mono ?_
  rintro e w2 ⟨rfl, hb2⟩
  have HB2 := Lib.hid hb2
  have b2 : i0.bytes * n ≤ 281474976710656 := by rw [hz2]; omega
  have b3 : n ≤ maxLen := by unfold maxLen; omega
  clear hb2
  go_wp2_with (refine wpList_make_full _ rfl _ _ 24 rfl w2.heap.size 3 i0 (.int .i64 0) 1 Try.underlying24 hinfo hz0 hz1 .i64 .i64 _ _ n rfl rfl ?hL ?hC b2 b3 (Nat.le_refl _) ?_)
  case hL => simp
  case hC => simp
  intro w3 hown hgr
  have HB3 := Lib.hid (HB2.out.trans (((Below.refl w2.heap.size w2).grown hgr (Nat.le_refl _) (fun k hk => by cases hk)).mono HB2.out.size))
  have HO := Lib.hid (OC.made (g := w2.heap.size) hown)
  have hgl := HB2.out.size
  obtain ⟨g, hg⟩ : ∃ g, w2.heap.size = g := ⟨_, rfl⟩
  rw [hg] at HO hgl ⊢
  clear hown hgr b2 b3 hg
  go_wp2_with fail
  go_loopw [17, 5, 6, 8] (fun iv _ _ _ wr => ∃ i : Nat, i ≤ n ∧ iv = .int .i64 i ∧ Below w.heap.size w wr ∧ OC wr g g n n (fun k => if k < i then cd (nd zs) n k else 0)) (fun iv _ _ _ _ => n - (intOf iv).toNat)
  case atStart => exact ⟨0, Nat.zero_le _, rfl, HB3.out, HO.out.congr (fun k _ => by rw [if_neg (by omega)])⟩
  case round =>
    clear HB3 HO
    obtain ⟨i, hi, rfl, hbel, ho⟩ := hrel
    by_cases hlt : i < n
    · obtain ⟨b, off, rfl, hb, hc⟩ := HOP.out i hlt
      have HC := Lib.hid (fun k hk => (hc k hk).trans (congrArg (fun x => some (Value.int .i64 x)) (HND.out k hk)))
      have cx := (World.cell?_of_block (hbel.block b hb)).trans (HC.out i hlt)
      have HBE := Lib.hid hbel
      have HO := Lib.hid ho
      obtain ⟨x, hx⟩ : ∃ x, nd zs i = x := ⟨_, rfl⟩
      rw [hx] at cx
      have HX := Lib.hid hx
      have f1 : decide ((n : Int) < (i : Int) + 1) = false := decide_eq_false (by omega)
      clear hc hbel ho hx
      by_cases hlast : i + 1 = n
      · have HL : Hid (∀ k, (if k < i then cd (nd zs) n k else 0) = if k < i + 1 then cd (nd zs) n k else 0) := fun k => by
          by_cases e : k = i
          · subst e
            have := cd_le (nd zs) n k
            rw [if_neg (by omega), if_pos (by omega)]; omega
          · by_cases e2 : k < i
            · rw [if_pos e2, if_pos (by omega)]
            · rw [if_neg e2, if_neg (by omega)]
        have HO2 := Lib.hid (HO.out.congr (fun k _ => HL.out k))
        subst hlast
        by_cases hcap : cap = i + 1
        · subst hcap
          go_wp2_with fail
          refine wp_loop_rounds 1 ?_
          rw [rounds_succ]
          go_wp2_with fail
          exact ⟨⟨i + 1, by omega, by go_num, HBE.out, HO2.out⟩, by simp [intOf]⟩
        · have hcn : (cap - (i + 1) = 0) = False := eq_false (by omega)
          have hcn2 : (cap = i + 1) = False := eq_false hcap
          clear hcap
          go_wp2_with fail
          refine wp_loop_rounds 1 ?_
          rw [rounds_succ]
          go_wp2_with fail
          exact ⟨⟨i + 1, by omega, by go_num, HBE.out, HO2.out⟩, by simp [intOf]⟩
      · have hcn : (cap - (i + 1) = 0) = False := eq_false (by omega)
        have hcn2 : (cap = i + 1) = False := eq_false (by omega)
        go_wp2_with fail
        clear cx f1
        obtain ⟨r, hr⟩ : ∃ r, n - (i + 1) = r := ⟨_, rfl⟩
        rw [hr]
        have HRR := Lib.hid hr
        have hr2 : i + 1 + r = n := by omega
        clear hr hcn hcn2 hlast
        go_loopw [27, 8] (fun jv _ wr => ∃ m : Nat, m ≤ r ∧ jv = .int .i64 m ∧ Below w.heap.size w wr ∧ OC wr g g n n (fun k => if k = i then cn (nd zs) i m else if k < i then cd (nd zs) n k else 0)) (fun jv _ _ => r - (intOf jv).toNat)
        case atStart =>
          refine ⟨0, Nat.zero_le _, rfl, HBE.out, HO.out.congr (fun k _ => ?_)⟩
          by_cases e : k = i
          · subst e; rw [if_neg (by omega), if_pos rfl]; rfl
          · rw [if_neg e]
        case round =>
          clear HBE HO
          obtain ⟨m, hm, rfl, hbel, ho⟩ := hrel
          by_cases hlm : m < r
          · have cy := (World.cell?_of_block (hbel.block b hb)).trans (HC.out (i + 1 + m) (by omega))
            rw [← Nat.add_assoc] at cy
            have co := ho.get i (by omega)
            rw [if_pos rfl] at co
            have cf := ho.frozen i
            have hcl := cn_le (nd zs) i m
            have HST := Lib.hid (ho.set i (cn (nd zs) i m + 1))
            have HBS := Lib.hid (hbel.setCell (show w.heap.size ≤ (⟨g, i, none⟩ : Addr).block from hgl) (.int .i64 ((cn (nd zs) i m + 1 : Nat) : Int)))
            rw [show ((cn (nd zs) i m + 1 : Nat) : Int) = (cn (nd zs) i m : Int) + 1 from rfl] at HST HBS
            have HBE := Lib.hid hbel
            have HO := Lib.hid ho
            obtain ⟨y, hy⟩ : ∃ y, nd zs (i + 1 + m) = y := ⟨_, rfl⟩
            rw [hy] at cy
            have HSTEP : Hid (cn (nd zs) i (m + 1) = cn (nd zs) i m + if y < x then 1 else 0) := by
              show _ = _
              rw [cn, hy, HX.out]
            clear hbel ho hy
            obtain ⟨z, hz⟩ : ∃ z, cn (nd zs) i m = z := ⟨_, rfl⟩
            rw [hz] at co HST HBS HSTEP HO hcl
            clear hz
            by_cases hyx : y < x
            · rw [if_pos hyx] at HSTEP
              have f1 : decide ((y : Int) < (x : Int)) = true := decide_eq_true (by omega)
              have f2 : decide (y < x) = true := decide_eq_true hyx
              clear hyx
              go_wp2_with fail
              exact ⟨⟨m + 1, by omega, by go_num, HBS.out, HST.out.congr (fun k _ => by
                by_cases e : k = i
                · subst e; rw [if_pos rfl, if_pos rfl, HSTEP.out]
                · rw [if_neg e, if_neg e, if_neg e])⟩, by simp [intOf]; omega⟩
            · rw [if_neg hyx, Nat.add_zero] at HSTEP
              have f1 : decide ((y : Int) < (x : Int)) = false := decide_eq_false (by omega)
              have f2 : decide (y < x) = false := decide_eq_false hyx
              clear hyx
              go_wp2_with fail
              exact ⟨⟨m + 1, by omega, by go_num, HBE.out, HO.out.congr (fun k _ => by
                by_cases e : k = i
                · subst e; rw [if_pos rfl, if_pos rfl, HSTEP.out]; rfl
                · rw [if_neg e, if_neg e])⟩, by simp [intOf]; omega⟩
          · obtain rfl : m = r := by omega
            have HBE := Lib.hid hbel
            have HO := Lib.hid (ho.congr (f' := fun k => if k < i + 1 then cd (nd zs) n k else 0) (fun k _ => by
              have e3 : cd (nd zs) n i = cn (nd zs) i m := by unfold cd; rw [show n - 1 - i = m by omega]
              exact step_if (F := cd (nd zs) n) (G := fun _ => 0) e3 k))
            clear hbel ho
            go_wp2_with fail
            go_roundw
            case rel => exact ⟨i + 1, by omega, by go_num, HBE.out, HO.out⟩
            case measure => simp [intOf]; omega
    · obtain rfl : i = n := by omega
      have HR3 := Lib.hid (ho.congr (f' := cd (nd zs) i) (fun k hk => by rw [if_pos hk])).rd
      have HBE := Lib.hid hbel
      clear ho hbel
      go_wp2_with fail
      go_ret2
      exact ⟨HBE.out, _, rfl, HR3.out⟩
/-- So many products of what is left. -/
def ff (n : Nat) : Nat → Nat
  | 0 => 1
  | i + 1 => ff n i * (n - i)
def rk (c : Nat → Nat) (n : Nat) : Nat → Nat
  | 0 => 0
  | i + 1 => rk c n i * (n - i) + c i
theorem ff_all : ((List.range 21).all fun n => (List.range 21).all fun i => decide (ff n i ≤ 2432902008176640000)) = true := by decide +kernel
theorem ff_le {n i : Nat} (hn : n ≤ 20) (hi : i ≤ 20) : ff n i ≤ 2432902008176640000 := by
  have h1 := List.all_eq_true.1 ff_all n (List.mem_range.2 (by omega))
  exact of_decide_eq_true (List.all_eq_true.1 h1 i (List.mem_range.2 (by omega)))
theorem rk_lt {c : Nat → Nat} {n : Nat} (hc : ∀ k, k < n → c k < n - k) : ∀ {i : Nat}, i ≤ n → rk c n i < ff n i
  | 0, _ => Nat.one_pos
  | i + 1, h => by
    have h1 := rk_lt hc (i := i) (by omega)
    have h2 := hc i (by omega)
    rw [rk, ff]
    have h3 := Nat.mul_le_mul (Nat.succ_le_of_lt h1) (Nat.le_refl (n - i))
    rw [Nat.succ_mul] at h3
    omega
theorem rank_bad (v : Value) (zs : List Int) (w : World) (h : Rd w v zs) (hno : ¬ OkP zs) :
    Calls Try.prog 9 #[v] w fun e w' => Below w.heap.size w w' ∧ e = .returned (.tuple #[.int .i64 0, .int .i64 1]) := by
  have HC := Lib.hid (fun w h => code_bad v zs w h hno)
  have H1 := Lib.hid h
  clear h hno
  go_enter Try.func9, Try.ntmps9
  go_wp2_with fail
  refine (HC.out _ H1.out).mono ?_
  rintro e w1 ⟨hb1, rfl⟩
  have HB1 := Lib.hid hb1
  clear hb1
  go_wp2_with fail
  go_ret2
  exact ⟨HB1.out, rfl⟩
def rkP (zs : List Int) : Nat := rk (cd (nd zs) zs.length) zs.length zs.length
set_option maxHeartbeats 1600000 in
theorem rank_ok (v : Value) (zs : List Int) (w : World) (h : Rd w v zs) (k1 : OkP zs) :
    Calls Try.prog 9 #[v] w fun e w' => Below w.heap.size w w' ∧ e = .returned (.tuple #[.int .i64 (rkP zs : Nat), .int .i64 0]) := by
  have HC := Lib.hid (fun w h => code_ok v zs w h k1)
  have H1 := Lib.hid h
  have hn := k1.1
  unfold rkP
  generalize zs.length = n at *
  have HCL : Hid (∀ k, k < n → cd (nd zs) n k < n - k) := fun k hk => by have := cd_le (nd zs) n k; omega
  generalize cd (nd zs) n = c at *
  clear h k1
  go_enter Try.func9, Try.ntmps9
  go_wp2_with fail
  refine (HC.out _ H1.out).mono ?_
  rintro e w1 ⟨hb1, u, rfl, hu⟩
  have HB1 := Lib.hid hb1
  obtain ⟨a, cap, rfl, hlc, hcm, hop⟩ := hu.open
  rw [tabI_len] at hlc hop ⊢
  have HOP := Lib.hid hop
  clear hb1 hu hop
  go_wp2_with fail
  go_loop [19, 6, 7, 8] (fun iv rv _ _ => ∃ i : Nat, i ≤ n ∧ iv = .int .i64 i ∧ rv = .int .i64 (rk c n i : Nat)) (fun iv _ _ _ => n - (intOf iv).toNat)
  case atStart => exact ⟨0, Nat.zero_le _, rfl, rfl⟩
  case round =>
    obtain ⟨i, hi, rfl, rfl⟩ := hrel
    by_cases hlt : i < n
    · obtain ⟨b, off, rfl, hb, hc⟩ := HOP.out i hlt
      have cx := hc i hlt
      rw [tabI_get _ _ _ hlt] at cx
      have h1 := rk_lt HCL.out (i := i) hi
      have h2 := rk_lt HCL.out (i := i + 1) (by omega)
      have h3 := ff_le hn (show i ≤ 20 by omega)
      have h4 := ff_le hn (show i + 1 ≤ 20 by omega)
      have h5 := HCL.out i hlt
      have h6 : rk c n i ≤ 2432902008176640000 := by omega
      have h7 : rk c n i * (n - i) + c i ≤ 2432902008176640000 := by rw [← show rk c n (i + 1) = rk c n i * (n - i) + c i from rfl]; omega
      have HR : Hid (rk c n (i + 1) = rk c n i * (n - i) + c i) := rfl
      clear hc h1 h2 h3 h4
      generalize rk c n i = r at *
      generalize c i = x at *
      obtain ⟨d, hd⟩ : ∃ d, n - i = d := ⟨_, rfl⟩
      rw [hd] at h5 h7 HR
      have hdi : (n : Int) - (i : Int) = (d : Int) := by omega
      obtain ⟨m, hm⟩ : ∃ m, r * d = m := ⟨_, rfl⟩
      have hpr : (r : Int) * (d : Int) = (m : Int) := by rw [← hm]; rfl
      rw [hm] at h7 HR
      clear hd hm
      go_wp2_with fail
      exact ⟨⟨i + 1, by omega, by go_num, by rw [HR.out]; rfl⟩, by simp [intOf]; omega⟩
    · obtain rfl : i = n := by omega
      go_wp2_with fail
      go_ret2
      exact ⟨HB1.out, rfl⟩
end Go.Proofs.Ytdneljpimocgfaa
