/- chain.reach, chain.Whole: what they answer. No condition. -/
import Derived.Test.YtidnmdfpnmahpaaSum
import Derived.Test.YtidnmdfpnmahpaaBl
set_option linter.unusedSimpArgs false
set_option linter.unusedVariables false
set_option maxRecDepth 20000
namespace Go.Proofs.Ytidnmdfpnmahpaa
open Go.RowKit
/-- Is a weight more than nothing. -/
def posM (M : List (List Int)) (i j : Nat) : Bool := decide (0 < (M.getD i []).getD j 0)
def updB (f : Nat → Bool) (j : Nat) : Nat → Bool := fun i => if i = j then true else f i
def rj (P : Nat → Bool) (i : Nat) : Nat → (Nat → Bool) → Nat → Bool
  | 0, f => f
  | j + 1, f => if rj P i j f i && P j then updB (rj P i j f) j else rj P i j f
def ri (P : Nat → Nat → Bool) (n : Nat) : Nat → (Nat → Bool) → Nat → Bool
  | 0, f => f
  | i + 1, f => rj (P i) i n (ri P n i f)
def rr (P : Nat → Nat → Bool) (n : Nat) : Nat → (Nat → Bool) → Nat → Bool
  | 0, f => f
  | t + 1, f => ri P n n (rr P n t f)
def reachF (P : Nat → Nat → Bool) (n k : Nat) : Nat → Bool := rr P n n (updB (fun _ => false) k)
def wholeF (P : Nat → Nat → Bool) (n : Nat) : Bool := (List.range n).all fun k => (List.range n).all (reachF P n k)
theorem RdB.lenEq {w : World} {a : Option Addr} {n cap : Nat} {zs : List Bool} (h : RdB w (.slice a n cap) zs) : zs.length = n ∧ n ≤ cap ∧ cap ≤ 9223372036854775807 := by
  obtain ⟨a', c', he, h1, h2, -⟩ := h.open
  injection he with _ h3 h4
  subst h3; subst h4
  exact ⟨rfl, h1, h2⟩
set_option maxHeartbeats 1600000 in
set_option maxRecDepth 20000 in
theorem reach_any (a : Option Addr) (n c k : Nat) (M : List (List Int)) (w : World) (h : RdM w (.slice a n c) M) (hg : Good n M) (hk : k < n) :
    Calls Try.prog 30 #[.slice a n c, .int .i64 k] w fun e w' => Below w.heap.size w w' ∧ ∃ g, e = .returned (.slice (some ⟨g, 0, none⟩) n n) ∧ OB w' w.heap.size g n (reachF (posM M) n k) := by
  obtain ⟨hl, hc1, hc2⟩ := h.lenEq
  obtain ⟨-, g1, g5, gr⟩ := hg
  obtain ⟨i0, hi, hz0, hz1, hz2⟩ := info_parts Try.info4t
  have HM := Lib.hid h
  have HG : Hid (∀ i, i < n → (M.getD i []).length = n) := fun i hi => (gr _ (getD_mem M i [] (by rw [hl]; exact hi))).1
  have HP : Hid (∀ i j, posM M i j = decide (0 < (M.getD i []).getD j 0)) := fun i j => rfl
  have HJ : Hid (∀ i j f, rj (posM M i) i (j + 1) f = if rj (posM M i) i j f i && posM M i j then updB (rj (posM M i) i j f) j else rj (posM M i) i j f) := fun i j f => rfl
  have HI : Hid (∀ i f, ri (posM M) n (i + 1) f = rj (posM M i) i n (ri (posM M) n i f)) := fun i f => rfl
  have HRR : Hid (∀ t f, rr (posM M) n (t + 1) f = ri (posM M) n n (rr (posM M) n t f)) := fun t f => rfl
  have HK : Hid (reachF (posM M) n k = rr (posM M) n n (updB (fun _ => false) k)) := rfl
  have hkI : (k : Int) < (n : Int) := by omega
  clear h hl gr
  go_enter Try.func30, Try.ntmps30
  go_wp2_with (refine wpList_make_full _ rfl _ _ 57 rfl w.heap.size 4 i0 (.bool false) 1 Try.underlying57 hi hz0 hz1 .i64 .i64 _ _ n rfl rfl rfl rfl ?b2 ?b3 (Nat.le_refl _) ?_)
  case b2 => rw [hz2]; omega
  case b3 => unfold maxLen; omega
  intro w4 hown hgr
  have hB4 : Below w.heap.size w w4 := (Below.refl _ _).grown hgr (Nat.le_refl _) (fun k hk => by cases hk)
  have ho := OB.made hown
  clear hown hgr
  obtain ⟨g, hgg⟩ : ∃ g, w.heap.size = g := ⟨_, rfl⟩
  rw [hgg] at ho ⊢
  have HGG := Lib.hid hgg
  have fk := ho.frozen k
  have ck := ho.get k hk
  have HO0 : Hid (OB (w4.setCell ⟨g, k, none⟩ (.bool true)) g g n (updB (fun _ => false) k)) := ho.set k true
  have HB0 : Hid (Below g w (w4.setCell ⟨g, k, none⟩ (.bool true))) := (hgg ▸ hB4).setCell (p := ⟨g, k, none⟩) (Nat.le_refl _) _
  have HW : Hid (w.heap.size ≤ g) := by show _ ≤ _; omega
  clear hB4 ho hgg
  go_wp2_with fail
  generalize w4.setCell ⟨g, k, none⟩ (.bool true) = w5 at *
  clear fk ck
  go_loopw [18] (fun tv wr => ∃ t : Nat, t ≤ n ∧ tv = .int .i64 t ∧ Hid (OB wr g g n (rr (posM M) n t (updB (fun _ => false) k))) ∧ Hid (Below g w wr)) (fun tv _ => n - (intOf tv).toNat)
  case atStart => exact ⟨0, Nat.zero_le _, rfl, HO0.out, HB0.out⟩
  case round =>
    clear HO0 HB0
    obtain ⟨t, ht, rfl, HO, HB⟩ := hrel
    by_cases htl : t < n
    · have htI : (t : Int) < (n : Int) := by omega
      have HRt := Lib.hid (HRR.out t (updB (fun _ => false) k))
      generalize rr (posM M) n t (updB (fun _ => false) k) = F at *
      obtain ⟨wt, rfl⟩ : ∃ wt : World, wt = wr := ⟨_, rfl⟩
      have HF0 : Hid (OB wt g g n (ri (posM M) n 0 F)) := HO.out
      go_wp2_with fail
      go_loopw [22] (fun iv wr => ∃ i : Nat, i ≤ n ∧ iv = .int .i64 i ∧ Hid (OB wr g g n (ri (posM M) n i F)) ∧ Hid (Below g w wr)) (fun iv _ => n - (intOf iv).toNat)
      case atStart => exact ⟨0, Nat.zero_le _, rfl, HF0.out, HB.out⟩
      case round =>
        clear HF0 HO HB
        obtain ⟨i, hi', rfl, HO, HB⟩ := hrel
        by_cases hil : i < n
        · have hiI : (i : Int) < (n : Int) := by omega
          have HIi := Lib.hid (HI.out i F)
          have HPi := Lib.hid (HP.out i)
          have HJi := Lib.hid (HJ.out i)
          obtain ⟨b, off, a', c', rfl, hb, cr0, hr⟩ := HM.out.row hil
          have cr := (World.cell?_of_block (HB.out.block b (Nat.lt_of_lt_of_le hb HW.out))).trans cr0
          have hrl := HG.out i hil
          clear cr0
          obtain ⟨r, hre⟩ : ∃ r, M.getD i [] = r := ⟨_, rfl⟩
          rw [hre] at HPi cr hr hrl
          rw [hrl] at cr hr
          obtain ⟨b2, off2, rfl, hb2, hcc⟩ := hr.at (by omega)
          have HCC := Lib.hid hcc
          have hbl : b2 < g := Nat.lt_of_lt_of_le hb2 HW.out
          clear hre hcc hr
          generalize ri (posM M) n i F = E at *
          obtain ⟨wi, rfl⟩ : ∃ wi : World, wi = wr := ⟨_, rfl⟩
          have HE0 : Hid (OB wi g g n (rj (posM M i) i 0 E)) := HO.out
          go_wp2_with fail
          go_loopw [29] (fun jv wr => ∃ j : Nat, j ≤ n ∧ jv = .int .i64 j ∧ Hid (OB wr g g n (rj (posM M i) i j E)) ∧ Hid (Below g w wr)) (fun jv _ => n - (intOf jv).toNat)
          case atStart => exact ⟨0, Nat.zero_le _, rfl, HE0.out, HB.out⟩
          case round =>
            clear HE0 HO HB
            obtain ⟨j, hj, rfl, HO, HB⟩ := hrel
            by_cases hjl : j < n
            · have hjI : (j : Int) < (n : Int) := by omega
              have cx : wr.cell? ⟨b2, off2 + j, none⟩ = some (.int .i64 (r.getD j 0)) := (World.cell?_of_block (HB.out.block b2 hbl)).trans (HCC.out j hjl)
              have hp := HPi.out j
              have hjj := HJi.out j E
              rw [hp] at hjj
              have HJj := Lib.hid hjj
              have ci := HO.out.get i hil
              have cj := HO.out.get j hjl
              have fj := HO.out.frozen j
              have HBj := Lib.hid (HB.out.setCell (p := ⟨g, j, none⟩) (Nat.le_refl _) (.bool true))
              have HOj : Hid (OB (wr.setCell ⟨g, j, none⟩ (.bool true)) g g n (updB (rj (posM M i) i j E) j)) := HO.out.set j true
              clear hp hjj
              generalize r.getD j 0 = x at *
              generalize rj (posM M i) i j E = G at *
              cases hgi : G i with
              | false =>
                rw [hgi] at ci HJj
                clear hgi
                go_wp2_with fail
                go_roundw
                case rel => exact ⟨j + 1, by omega, by go_num, by rw [HJj.out]; exact HO.out, HB.out⟩
                case measure => simp [intOf]; omega
              | true =>
                rw [hgi] at ci HJj
                by_cases hx : 0 < x
                · have d1 : decide (0 < x) = true := decide_eq_true hx
                  rw [d1] at HJj
                  clear hgi hx
                  go_wp2_with fail
                  go_roundw
                  case rel => exact ⟨j + 1, by omega, by go_num, by rw [HJj.out]; exact HOj.out, HBj.out⟩
                  case measure => simp [intOf]; omega
                · have d1 : decide (0 < x) = false := decide_eq_false hx
                  rw [d1] at HJj
                  clear hgi hx
                  go_wp2_with fail
                  go_roundw
                  case rel => exact ⟨j + 1, by omega, by go_num, by rw [HJj.out]; exact HO.out, HB.out⟩
                  case measure => simp [intOf]; omega
            · obtain rfl : j = n := by omega
              have HOn : Hid (OB wr g g j (ri (posM M) j (i + 1) F)) := by show OB _ _ _ _ _; rw [HIi.out]; exact HO.out
              go_wp2_with fail
              exact ⟨⟨i + 1, by omega, by go_num, HOn.out, HB.out⟩, by simp [intOf]; omega⟩
        · obtain rfl : i = n := by omega
          have HOn : Hid (OB wr g g i (rr (posM M) i (t + 1) (updB (fun _ => false) k))) := by show OB _ _ _ _ _; rw [HRt.out]; exact HO.out
          go_wp2_with fail
          exact ⟨⟨t + 1, by omega, by go_num, HOn.out, HB.out⟩, by simp [intOf]; omega⟩
    · obtain rfl : t = n := by omega
      go_wp2_with fail
      go_ret
      refine ⟨by rw [HGG.out]; exact HB.out, g, rfl, ?_⟩
      rw [HGG.out, HK.out]
      exact HO.out
theorem whole_no {P : Nat → Nat → Bool} {n k j : Nat} (hk : k < n) (hj : j < n) (h : reachF P n k j = false) : wholeF P n = false := by
  cases hw : wholeF P n with
  | false => rfl
  | true =>
    unfold wholeF at hw
    rw [List.all_eq_true] at hw
    have h1 := hw k (List.mem_range.2 hk)
    rw [List.all_eq_true] at h1
    rw [h1 j (List.mem_range.2 hj)] at h
    cases h
theorem whole_yes {P : Nat → Nat → Bool} {n : Nat} (h : ∀ k, k < n → ∀ j, j < n → reachF P n k j = true) : wholeF P n = true := by
  unfold wholeF
  rw [List.all_eq_true]
  intro k hk
  rw [List.all_eq_true]
  intro j hj
  exact h k (List.mem_range.1 hk) j (List.mem_range.1 hj)
set_option maxHeartbeats 1600000 in
set_option maxRecDepth 20000 in
theorem whole_run (a : Option Addr) (n c : Nat) (M : List (List Int)) (w : World) (h : RdM w (.slice a n c) M) (hg : Good n M) :
    Calls Try.prog 18 #[.slice a n c] w fun e w' => e = .returned (.tuple #[.bool (wholeF (posM M) n), .int .i64 0]) ∧ Below w.heap.size w w' := by
  obtain ⟨hl, hc1, hc2⟩ := h.lenEq
  have hg' := hg
  obtain ⟨-, g1, g5, gr⟩ := hg'
  have hw0 : wrongN M = 0 := (wrong_good M).2 ⟨rfl, by omega, by omega, by rw [hl]; exact gr⟩
  have HWR : Hid (Calls Try.prog 12 #[.slice a n c] w fun e w' => e = .returned (.int .i64 0) ∧ w = w') := by
    have := wrong_any a n c M w h
    rw [hw0] at this
    exact this
  have HRC : Hid (∀ k w2, k < n → Below w.heap.size w w2 → Calls Try.prog 30 #[.slice a n c, .int .i64 k] w2 fun e w' => Below w2.heap.size w2 w' ∧ ∃ g, e = .returned (.slice (some ⟨g, 0, none⟩) n n) ∧ OB w' w2.heap.size g n (reachF (posM M) n k)) := fun k w2 hk hb => reach_any a n c k M w2 (h.below hb (Nat.le_refl _)) hg hk
  have HNO : Hid (∀ k j, k < n → j < n → reachF (posM M) n k j = false → wholeF (posM M) n = false) := fun k j hk hj h => whole_no hk hj h
  have HYES : Hid ((∀ k, k < n → ∀ j, j < n → reachF (posM M) n k j = true) → wholeF (posM M) n = true) := whole_yes
  clear hw0 h hl gr hg
  generalize reachF (posM M) n = R at *
  go_enter Try.func18, Try.ntmps18
  go_wp2_with fail
  refine HWR.out.mono ?_
  rintro e w' ⟨rfl, rfl⟩
  go_wp2_with fail
  go_loopw [15] (fun kv wr => ∃ k : Nat, k ≤ n ∧ kv = .int .i64 k ∧ Hid (∀ q, q < k → ∀ j, j < n → R q j = true) ∧ Hid (Below w.heap.size w wr)) (fun kv _ => n - (intOf kv).toNat)
  case atStart => exact ⟨0, Nat.zero_le _, rfl, fun q hq => absurd hq (Nat.not_lt_zero _), Below.refl _ _⟩
  case round =>
    obtain ⟨k, hk, rfl, HA, HB⟩ := hrel
    by_cases hkl : k < n
    · have hkI : (k : Int) < (n : Int) := by omega
      have HNk := Lib.hid (fun j hj => HNO.out k j hkl hj)
      go_wp2_with fail
      refine (HRC.out k wr hkl HB.out).mono ?_
      rintro e w2 ⟨hb2, g, rfl, ho⟩
      have HB2 := Lib.hid (HB.out.trans (hb2.mono HB.out.size))
      have HO := Lib.hid ho
      clear hb2 ho
      go_wp2_with fail
      go_loop [22] (fun jv => ∃ j : Nat, j ≤ n ∧ jv = .int .i64 j ∧ Hid (∀ q, q < j → R k q = true)) (fun jv => n - (intOf jv).toNat)
      case atStart => exact ⟨0, Nat.zero_le _, rfl, fun q hq => absurd hq (Nat.not_lt_zero _)⟩
      case round =>
        obtain ⟨j, hj, rfl, HJ⟩ := hrel
        by_cases hjl : j < n
        · have hjI : (j : Int) < (n : Int) := by omega
          have cj := HO.out.get j hjl
          have HNj := Lib.hid (HNk.out j hjl)
          cases hr : R k j with
          | true =>
            rw [hr] at cj
            have HJn : Hid (∀ q, q < j + 1 → R k q = true) := fun q hq => by
              by_cases e : q = j
              · rw [e]; exact hr
              · exact HJ.out q (by omega)
            clear hr
            go_wp2_with fail
            go_round
            case rel => exact ⟨j + 1, by omega, by go_num, HJn.out⟩
            case measure => simp [intOf]; omega
          | false =>
            rw [hr] at cj
            have hwf := HNj.out hr
            have HWF := Lib.hid hwf
            clear hr hwf
            go_wp2_with fail
            go_ret2
            exact ⟨by rw [HWF.out]; rfl, HB2.out⟩
        · obtain rfl : j = n := by omega
          have HAn : Hid (∀ q, q < k + 1 → ∀ i, i < j → R q i = true) := fun q hq i hi => by
            by_cases e : q = k
            · rw [e]; exact HJ.out i hi
            · exact HA.out q (by omega) i hi
          go_wp2_with fail
          exact ⟨⟨k + 1, by omega, by go_num, HAn.out, HB2.out⟩, by simp [intOf]; omega⟩
    · obtain rfl : k = n := by omega
      have hwt := HYES.out HA.out
      have HWT := Lib.hid hwt
      clear hwt
      go_wp2_with fail
      go_ret2
      exact ⟨by rw [HWT.out]; rfl, HB.out⟩
theorem whole_err (a : Option Addr) (n c : Nat) (M : List (List Int)) (w : World) (h : RdM w (.slice a n c) M) (hg : wrongN M ≠ 0) :
    Calls Try.prog 18 #[.slice a n c] w fun e w' => e = .returned (.tuple #[.bool false, .int .i64 (wrongN M : Nat)]) ∧ w = w' := by
  have HWR := Lib.hid (wrong_any a n c M w h)
  generalize wrongN M = e at *
  have he : ((e : Int) != 0) = true := by rw [bne_iff_ne]; omega
  clear hg h
  go_enter Try.func18, Try.ntmps18
  go_wp2_with fail
  refine HWR.out.mono ?_
  rintro e w' ⟨rfl, rfl⟩
  go_wp2_with fail
  go_ret2
  exact ⟨rfl, rfl⟩
end Go.Proofs.Ytidnmdfpnmahpaa
