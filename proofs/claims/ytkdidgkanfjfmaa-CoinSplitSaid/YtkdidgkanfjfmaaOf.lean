/- coin.Of: what it answers, of weights that may be. -/
import Derived.Test.YtkdidgkanfjfmaaTurn
set_option linter.unusedSimpArgs false
set_option linter.unusedVariables false
namespace Go.Proofs.Ytkdidgkanfjfmaa
open Go.RowKit
def sumW : List Nat → Nat
  | [] => 0
  | w :: ws => w + sumW ws
theorem sumW_split (ws : List Nat) : ∀ i, sumW (ws.take i) + sumW (ws.drop i) = sumW ws := by
  induction ws with
  | nil => intro i; simp [sumW]
  | cons w ws ih =>
    intro i
    cases i with
    | zero => simp [sumW]
    | succ i => simp only [List.take_succ_cons, List.drop_succ_cons, sumW]; have := ih i; omega
theorem drop_consN {ws : List Nat} {i : Nat} (h : i < ws.length) : ws.drop i = ws.getD i 0 :: ws.drop (i + 1) := by
  rw [List.drop_eq_getElem_cons h]; simp [List.getD_eq_getElem?_getD, List.getElem?_eq_getElem h]
theorem ofF_at {ws : List Nat} {i : Nat} (h : i < ws.length) (k s : Nat) (t : List Bool) : ofF k s (ws.drop i) t = (match tossN (ws.getD i 0) s t with
    | none => none
    | some (true, v) => some (k, v)
    | some (false, v) => (ofF (k + 1) (s - ws.getD i 0) (ws.drop (i + 1)) (t.drop v)).map fun q => (q.1, q.2 + v)) := by
  rw [drop_consN h]; rfl
theorem getD_cast (ws : List Nat) (i : Nat) : (ws.map (fun n : Nat => (n : Int))).getD i 0 = (ws.getD i 0 : Nat) := by
  simp only [List.getD_eq_getElem?_getD, List.getElem?_map]
  cases ws[i]? <;> rfl
theorem tossN_false {w s : Nat} {t : List Bool} {u : Nat} (h : tossN w s t = some (false, u)) : w ≠ s := fun e => by
  unfold tossN at h; rw [if_pos e] at h; cases h
set_option maxHeartbeats 1600000 in
theorem of_ok (v v2 : Value) (z : List Bool) (ws : List Nat) (hS0 : 1 ≤ sumW ws) (hS1 : sumW ws ≤ 1099511627776) (w : World) (h : RdB w v z) (h2 : Rd w v2 (ws.map (fun n : Nat => (n : Int)))) :
    Calls Try.prog 13 #[v, v2] w fun e w' => e = .returned (uv (ofF 0 (sumW ws) ws z)) ∧ Below w.heap.size w w' := by
  obtain ⟨a, cap, rfl, hlc, hcm, -⟩ := h.open
  have HRD := Lib.hid h
  obtain ⟨a2, cap2, rfl, hlc2, hcm2, hop2⟩ := h2.open
  have HO2 := Lib.hid hop2
  clear h h2 hop2
  rw [List.length_map] at hlc2
  have hlen : (ws.map (fun n : Nat => (n : Int))).length = ws.length := List.length_map _
  rw [hlen] at HO2 ⊢
  clear hlen
  have HSP := Lib.hid (sumW_split ws)
  have HT := Lib.hid (fun v z num den h1 h2 h3 w h => toss_ok v z num den h1 h2 h3 w h)
  go_enter Try.func13, Try.ntmps13
  go_wp2_with fail
  go_loop [7, 18] (fun sv iv => ∃ i : Nat, i ≤ ws.length ∧ iv = .int .i64 i ∧ sv = .int .i64 (sumW (ws.take i) : Nat)) (fun _ iv => ws.length - (intOf iv).toNat)
  case atStart => exact ⟨0, Nat.zero_le _, rfl, rfl⟩
  case round =>
    obtain ⟨i, hi, rfl, rfl⟩ := hrel
    have s1 := HSP.out i
    by_cases hlt : i < ws.length
    · obtain ⟨b, off, rfl, hbl, hc⟩ := HO2.out i hlt
      have cc := hc i hlt
      rw [getD_cast] at cc
      have s2 := HSP.out (i + 1)
      have hd : sumW (ws.drop i) = ws.getD i 0 + sumW (ws.drop (i + 1)) := by rw [drop_consN hlt]; rfl
      have hk : Hid (sumW (ws.take (i + 1)) = sumW (ws.take i) + ws.getD i 0) := by show _ = _; omega
      have hb2 : sumW (ws.take i) + ws.getD i 0 ≤ 1099511627776 := by omega
      clear hc s1 s2 hd
      generalize ws.getD i 0 = x at *
      generalize sumW (ws.take i) = y at *
      go_wp2_with fail
      go_round
      case rel => exact ⟨i + 1, by omega, by go_num, by rw [hk.out]; go_num⟩
      case measure => simp [intOf]; omega
    · obtain rfl : i = ws.length := by omega
      have ht : sumW (ws.take ws.length) = sumW ws := by rw [List.take_length]
      rw [ht]
      clear ht s1
      have H0 : Hid (sumW ws = sumW (ws.drop 0)) := rfl
      have HI : Hid (ofF 0 (sumW ws) ws z = (ofF 0 (sumW (ws.drop 0)) (ws.drop 0) (z.drop 0)).map fun q => (q.1, q.2 + 0)) := by
        show _ = _
        simp
      obtain ⟨S, hS⟩ : ∃ S, S = sumW ws := ⟨_, rfl⟩
      rw [← hS] at hS0 hS1 H0 HI ⊢
      have e0 : ((S : Int) == 0) = false := by rw [beq_eq_false_iff_ne]; omega
      go_wp2_with fail
      go_loopw [7, 10, 42] (fun sv usv iv wr => ∃ i u : Nat, i ≤ ws.length ∧ u ≤ z.length ∧ iv = .int .i64 i ∧ usv = .int .i64 u ∧ sv = .int .i64 (sumW (ws.drop i) : Nat) ∧ 1 ≤ sumW (ws.drop i) ∧
        Hid (ofF 0 S ws z = (ofF i (sumW (ws.drop i)) (ws.drop i) (z.drop u)).map fun q => (q.1, q.2 + u)) ∧ Below w.heap.size w wr) (fun _ _ iv _ => ws.length - (intOf iv).toNat)
      case atStart => exact ⟨0, 0, Nat.zero_le _, Nat.zero_le _, rfl, rfl, rfl, by rw [← H0.out]; exact hS0, HI.out, Below.refl _ _⟩
      case round =>
        obtain ⟨i, u, hi, hu, rfl, rfl, rfl, hs0, ht, hbel⟩ := hrel
        have hsb : sumW (ws.drop i) ≤ 1099511627776 := by have := HSP.out i; omega
        by_cases hlt : i < ws.length
        · obtain ⟨b, off, rfl, hbl, hc⟩ := HO2.out i hlt
          have cc := (World.cell?_of_block (hbel.block b hbl)).trans (hc i hlt)
          rw [getD_cast] at cc
          have hd : sumW (ws.drop i) = ws.getD i 0 + sumW (ws.drop (i + 1)) := by rw [drop_consN hlt]; rfl
          rw [ofF_at hlt] at ht
          rw [show sumW (ws.drop i) - ws.getD i 0 = sumW (ws.drop (i + 1)) by omega] at ht
          have hdr := (HRD.out.below hbel (Nat.le_refl _)).drop hu
          have hx : ws.getD i 0 ≤ sumW (ws.drop i) := by omega
          have H1a := Lib.hid (fun h => HT.out _ _ (ws.getD i 0) (sumW (ws.drop i)) hs0 hsb hx wr (hdr.2 h))
          have H1b := Lib.hid (fun h => HT.out _ _ (ws.getD i 0) (sumW (ws.drop i)) hs0 hsb hx wr (hdr.1 h))
          have HIN := Lib.hid (fun q (hq : tossN (ws.getD i 0) (sumW (ws.drop i)) (z.drop u) = some q) => tossN_in hq)
          have HNE := Lib.hid (fun v (hq : tossN (ws.getD i 0) (sumW (ws.drop i)) (z.drop u) = some (false, v)) => tossN_false hq)
          have HBEL := Lib.hid hbel
          have hsub : (sumW (ws.drop i) : Int) - (ws.getD i 0 : Int) = (sumW (ws.drop (i + 1)) : Int) := by omega
          have HD := Lib.hid hd
          clear hc hdr hbel hd
          generalize hY2 : sumW (ws.drop (i + 1)) = y2 at *
          have HY2 := Lib.hid hY2
          clear hY2
          generalize sumW (ws.drop i) = y at *
          generalize ws.getD i 0 = x at *
          generalize tossN x y (z.drop u) = o at *
          by_cases hcu : cap = u
          · have h1 := Lib.hid (H1a.out hcu)
            clear H1a H1b
            subst hcu
            cases o with
            | none =>
              have HX : Hid (ofF 0 S ws z = none) := ht.out
              simp only [tv] at h1
              clear ht HIN HNE
              go_wp2_with fail
              refine h1.out.mono ?_
              rintro e w2 ⟨rfl, hb2⟩
              go_wp2_with fail
              go_ret3
              exact ⟨by rw [← hS, HX.out]; rfl, HBEL.out.trans (hb2.mono HBEL.out.size)⟩
            | some q =>
              obtain ⟨c, v⟩ := q
              have hv := (HIN.out _ rfl).1
              rw [List.length_drop] at hv
              simp only at hv
              simp only [tv] at h1
              cases c
              · have hne := HNE.out v rfl
                have HX : Hid (ofF 0 S ws z = (ofF (i + 1) y2 (ws.drop (i + 1)) (z.drop (cap + v))).map fun q => (q.1, q.2 + (cap + v))) := by
                  show _ = _
                  rw [ht.out]
                  show Option.map _ (Option.map _ (ofF (i + 1) y2 (ws.drop (i + 1)) ((z.drop cap).drop v))) = _
                  rw [List.drop_drop, Option.map_map]
                  congr 1; funext q; simp; omega
                have hy2 : 1 ≤ y2 := by have := HD.out; omega
                clear ht HIN HNE
                go_wp2_with fail
                refine h1.out.mono ?_
                rintro e w2 ⟨rfl, hb2⟩
                go_wp2_with fail
                go_roundw
                case rel => exact ⟨i + 1, cap + v, by omega, by omega, by go_num, by go_num, by rw [HY2.out], by rw [HY2.out]; exact hy2, by rw [HY2.out]; exact HX.out, HBEL.out.trans (hb2.mono HBEL.out.size)⟩
                case measure => simp [intOf]; omega
              · have HX : Hid (ofF 0 S ws z = some (i, cap + v)) := by
                  show _ = _
                  rw [ht.out]
                  show some (i, v + cap) = some (i, cap + v)
                  rw [Nat.add_comm v cap]
                clear ht HIN HNE
                go_wp2_with fail
                refine h1.out.mono ?_
                rintro e w2 ⟨rfl, hb2⟩
                go_wp2_with fail
                go_ret3
                exact ⟨by rw [← hS, HX.out]; rfl, HBEL.out.trans (hb2.mono HBEL.out.size)⟩
          · have h1 := Lib.hid (H1b.out hcu)
            clear H1a H1b
            cases o with
            | none =>
              have HX : Hid (ofF 0 S ws z = none) := ht.out
              simp only [tv] at h1
              clear ht HIN HNE
              go_wp2_with fail
              refine h1.out.mono ?_
              rintro e w2 ⟨rfl, hb2⟩
              go_wp2_with fail
              go_ret3
              exact ⟨by rw [← hS, HX.out]; rfl, HBEL.out.trans (hb2.mono HBEL.out.size)⟩
            | some q =>
              obtain ⟨c, v⟩ := q
              have hv := (HIN.out _ rfl).1
              rw [List.length_drop] at hv
              simp only at hv
              simp only [tv] at h1
              cases c
              · have hne := HNE.out v rfl
                have HX : Hid (ofF 0 S ws z = (ofF (i + 1) y2 (ws.drop (i + 1)) (z.drop (u + v))).map fun q => (q.1, q.2 + (u + v))) := by
                  show _ = _
                  rw [ht.out]
                  show Option.map _ (Option.map _ (ofF (i + 1) y2 (ws.drop (i + 1)) ((z.drop u).drop v))) = _
                  rw [List.drop_drop, Option.map_map]
                  congr 1; funext q; simp; omega
                have hy2 : 1 ≤ y2 := by have := HD.out; omega
                clear ht HIN HNE
                go_wp2_with fail
                refine h1.out.mono ?_
                rintro e w2 ⟨rfl, hb2⟩
                go_wp2_with fail
                go_roundw
                case rel => exact ⟨i + 1, u + v, by omega, by omega, by go_num, by go_num, by rw [HY2.out], by rw [HY2.out]; exact hy2, by rw [HY2.out]; exact HX.out, HBEL.out.trans (hb2.mono HBEL.out.size)⟩
                case measure => simp [intOf]; omega
              · have HX : Hid (ofF 0 S ws z = some (i, u + v)) := by
                  show _ = _
                  rw [ht.out]
                  show some (i, v + u) = some (i, u + v)
                  rw [Nat.add_comm v u]
                clear ht HIN HNE
                go_wp2_with fail
                refine h1.out.mono ?_
                rintro e w2 ⟨rfl, hb2⟩
                go_wp2_with fail
                go_ret3
                exact ⟨by rw [← hS, HX.out]; rfl, HBEL.out.trans (hb2.mono HBEL.out.size)⟩
        · obtain rfl : i = ws.length := by omega
          rw [List.drop_length] at hs0
          simp [sumW] at hs0
end Go.Proofs.Ytkdidgkanfjfmaa
