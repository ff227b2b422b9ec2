/- drop.Wrong and Level: what they answer. Condition: a row within the reach. -/
import Derived.Test.YtkmjjckpolopgaaDropL
set_option linter.unusedSimpArgs false
set_option linter.unusedVariables false
namespace Go.Proofs.Ytkmjjckpolopgaa
open Go.RowKit
set_option maxHeartbeats 800000 in
theorem wrong_good (v : Value) (zs : List Int) (keep : Int) (w : World) (h : Rd w v zs) (hok : OkD zs keep) :
    Calls Try.prog 15 #[v, .int .i64 keep] w fun e w' => e = .returned (.int .i64 0) ∧ w' = w := by
  obtain ⟨a, cap, rfl, -, -, hop⟩ := h.open
  obtain ⟨n, hn⟩ : ∃ n, zs.length = n := ⟨_, rfl⟩
  obtain ⟨h1, h2, h3, h4⟩ := hok
  rw [hn] at hop h1 ⊢
  have HN := Lib.hid hn
  have HOP := Lib.hid hop
  have HW := Lib.hid h4
  have t1 : decide ((400 : Int) < (n : Int)) = false := decide_eq_false (by omega)
  have t2 : decide (keep < 1) = false := decide_eq_false (by omega)
  have t3 : decide ((400 : Int) < keep) = false := decide_eq_false (by omega)
  clear h hop hn h4 h2 h3
  go_enter Try.func15, Try.ntmps15
  go_wp2_with fail
  clear t1 t2 t3
  go_loopw [20] (fun iv wr => ∃ k : Nat, k ≤ n ∧ iv = .int .i64 k ∧ wr = w) (fun iv _ => n - (intOf iv).toNat)
  case atStart => exact ⟨0, Nat.zero_le _, rfl, rfl⟩
  case round =>
    obtain ⟨k, hk, rfl, rfl⟩ := hrel
    by_cases hkn : k < n
    · obtain ⟨b, off, rfl, hb, hc⟩ := HOP.out k hkn
      have c1 := hc k hkn
      have hx := HW.out _ (getD_memI zs k (by rw [HN.out]; exact hkn))
      clear hc
      generalize zs.getD k 0 = x at *
      have t1 : decide (x < 1) = false := decide_eq_false (by omega)
      have t2 : decide (1048576 < x) = false := decide_eq_false (by omega)
      clear hx
      go_wp2_with fail
      go_roundw
      case rel => exact ⟨k + 1, by omega, by go_num, trivial⟩
      case measure => simp [intOf]; omega
    · obtain rfl : k = n := by omega
      go_wp2_with fail
      go_ret
      exact ⟨rfl, rfl⟩
set_option maxHeartbeats 800000 in
theorem wrong_bad (v : Value) (zs : List Int) (keep : Int) (w : World) (h : Rd w v zs) (hno : ¬ OkD zs keep) :
    Calls Try.prog 15 #[v, .int .i64 keep] w fun e w' => e = .returned (.int .i64 2) ∧ w' = w := by
  obtain ⟨a, cap, rfl, -, -, hop⟩ := h.open
  obtain ⟨n, hn⟩ : ∃ n, zs.length = n := ⟨_, rfl⟩
  rw [hn] at hop ⊢
  have HN := Lib.hid hn
  have HOP := Lib.hid hop
  by_cases h1 : n ≤ 400
  · have t1 : decide ((400 : Int) < (n : Int)) = false := decide_eq_false (by omega)
    by_cases h2 : 1 ≤ keep
    · have t2 : decide (keep < 1) = false := decide_eq_false (by omega)
      by_cases h3 : keep ≤ 400
      · have t3 : decide ((400 : Int) < keep) = false := decide_eq_false (by omega)
        have HX : Hid (¬ Wts zs) := fun hw => hno ⟨by omega, h2, h3, hw⟩
        clear h hop hn hno h2 h3
        go_enter Try.func15, Try.ntmps15
        go_wp2_with fail
        clear t1 t2 t3
        go_loopw [20] (fun iv wr => ∃ k : Nat, k ≤ n ∧ iv = .int .i64 k ∧ Hid (Wts (zs.take k)) ∧ wr = w) (fun iv _ => n - (intOf iv).toNat)
        case atStart => exact ⟨0, Nat.zero_le _, rfl, (fun x hx => by simp at hx), rfl⟩
        case round =>
          obtain ⟨k, hk, rfl, HT, rfl⟩ := hrel
          by_cases hkn : k < n
          · obtain ⟨b, off, rfl, hb, hc⟩ := HOP.out k hkn
            have c1 := hc k hkn
            have hT := take_s zs k (by rw [HN.out]; exact hkn)
            clear hc
            generalize zs.getD k 0 = x at *
            by_cases g1 : x < 1
            · have t1 : decide (x < 1) = true := decide_eq_true g1
              clear hT
              go_wp2_with fail
              go_ret
              exact ⟨rfl, rfl⟩
            · have t1 : decide (x < 1) = false := decide_eq_false g1
              by_cases g2 : 1048576 < x
              · have t2 : decide (1048576 < x) = true := decide_eq_true g2
                clear hT g1
                go_wp2_with fail
                go_ret
                exact ⟨rfl, rfl⟩
              · have t2 : decide (1048576 < x) = false := decide_eq_false g2
                have HTn : Hid (Wts (zs.take (k + 1))) := by
                  show Wts _
                  rw [hT]
                  intro y hy
                  rcases List.mem_append.1 hy with hy | hy
                  · exact HT.out y hy
                  · rw [List.mem_singleton.1 hy]; omega
                clear hT g1 g2
                go_wp2_with fail
                go_roundw
                case rel => exact ⟨k + 1, by omega, by go_num, HTn.out, trivial⟩
                case measure => simp [intOf]; omega
          · obtain rfl : k = n := by omega
            exfalso
            have := HT.out
            rw [List.take_of_length_le (by rw [HN.out]; exact Nat.le_refl _)] at this
            exact HX.out this
      · have t3 : decide ((400 : Int) < keep) = true := decide_eq_true (by omega)
        clear h hop hn hno h3 h2
        go_enter Try.func15, Try.ntmps15
        go_wp2_with fail
        go_ret
        exact ⟨rfl, rfl⟩
    · have t2 : decide (keep < 1) = true := decide_eq_true (by omega)
      clear h hop hn hno h2
      go_enter Try.func15, Try.ntmps15
      go_wp2_with fail
      go_ret
      exact ⟨rfl, rfl⟩
  · have t1 : decide ((400 : Int) < (n : Int)) = true := decide_eq_true (by omega)
    clear h hop hn hno h1
    go_enter Try.func15, Try.ntmps15
    go_wp2_with fail
    go_ret
    exact ⟨rfl, rfl⟩
def fr (a b : Int) : Value := .agg #[.int .i64 a, .int .i64 b]
set_option maxHeartbeats 800000 in
theorem lev_bad (v : Value) (zs : List Int) (keep : Int) (w : World) (h : Rd w v zs) (hno : ¬ OkD zs keep) :
    Calls Try.prog 9 #[v, .int .i64 keep] w fun e w' => e = .returned (.tuple #[fr 0 0, .int .i64 2]) ∧ Below w.heap.size w w' := by
  have HW := Lib.hid (wrong_bad v zs keep _ (h.alloc (.cells #[.int .i64 0, .int .i64 0] 25)) hno)
  obtain ⟨a, cap, rfl, -⟩ := h.open
  clear h hno
  unfold fr
  go_enter Try.func9, Try.ntmps9
  go_wp2_with fail
  refine HW.out.mono ?_
  rintro e w1 ⟨rfl, rfl⟩
  go_wp2_with fail
  refine bodyPost_ret (v := .tuple #[.agg #[.int .i64 0, .int .i64 0], .int .i64 2]) (by simp [results, Try.results9, go_sem]) rfl ⟨rfl, ?_⟩
  exact (Below.refl _ _).alloc (Nat.le_refl _) _
set_option maxHeartbeats 800000 in
theorem lev_few_any (v : Value) (zs : List Int) (keep : Int) (w : World) (h : Rd w v zs) (hok : OkD zs keep) (hk : (zs.length : Int) ≤ keep) :
    Calls Try.prog 9 #[v, .int .i64 keep] w fun e w' => e = .returned (.tuple #[fr 0 0, .int .i64 0]) ∧ Below w.heap.size w w' := by
  have HW := Lib.hid (wrong_good v zs keep _ (h.alloc (.cells #[.int .i64 0, .int .i64 0] 25)) hok)
  obtain ⟨a, cap, rfl, -⟩ := h.open
  obtain ⟨n, hn⟩ : ∃ n, zs.length = n := ⟨_, rfl⟩
  rw [hn] at hk HW ⊢
  have t1 : decide ((n : Int) ≤ keep) = true := decide_eq_true hk
  clear h hok hn hk
  unfold fr
  go_enter Try.func9, Try.ntmps9
  go_wp2_with fail
  refine HW.out.mono ?_
  rintro e w1 ⟨rfl, rfl⟩
  go_wp2_with fail
  refine bodyPost_ret (v := .tuple #[.agg #[.int .i64 0, .int .i64 0], .int .i64 0]) (by simp [results, Try.results9, go_sem]) rfl ⟨rfl, ?_⟩
  exact (Below.refl _ _).alloc (Nat.le_refl _) _
theorem cellsAt {w : World} {B : Nat} {x y : Value} (q : Nat) (h : w.heap[B]? = some (.cells #[x, y] 25 (0, 0))) :
    (w.drewN q).cell? ⟨B, 0, none⟩ = some x ∧ (w.drewN q).cell? ⟨B, 1, none⟩ = some y ∧ (w.drewN q).frozen? ⟨B, 0, none⟩ = false ∧ (w.drewN q).frozen? ⟨B, 1, none⟩ = false ∧ B < (w.drewN q).heap.size := by
  have h' : (w.drewN q).heap[B]? = some (.cells #[x, y] 25 (0, 0)) := h
  refine ⟨?_, ?_, ?_, ?_, lt_of_block h'⟩
  · rw [cell_of_row _ _ _ _ 25 (0, 0) h']; rfl
  · rw [cell_of_row _ _ _ _ 25 (0, 0) h']; rfl
  · simp [World.frozen?, h]
  · simp [World.frozen?, h]
set_option maxHeartbeats 1600000 in
theorem lev_many_any (v : Value) (zs : List Int) (keep : Int) (w : World) (h : Rd w v zs) (hok : OkD zs keep) (hk : keep < (zs.length : Int)) :
    Calls Try.prog 9 #[v, .int .i64 keep] w fun e w' => e = .returned (.tuple #[fr (lev zs keep).1 (lev zs keep).2, .int .i64 0]) ∧ Below w.heap.size w w' := by
  obtain ⟨W, hW⟩ : ∃ W, w.alloc (.cells #[.int .i64 0, .int .i64 0] 25) = W := ⟨_, rfl⟩
  have hr : Rd W v zs := by rw [← hW]; exact h.alloc _
  have HB0 : Hid (Below w.heap.size w W) := by show Below _ _ _; rw [← hW]; exact (Below.refl _ _).alloc (Nat.le_refl _) _
  have HB0h : Hid (W.heap[w.heap.size]? = some (.cells #[.int .i64 0, .int .i64 0] 25 (0, 0)) ∧ w.heap.size < W.heap.size) := by
    show _ ∧ _
    rw [← hW]; exact ⟨heap_alloc_new w _, by simp⟩
  have HW := Lib.hid (wrong_good v zs keep W hr hok)
  have HVA := Lib.hid (values_any v zs W hr)
  have HSO := Lib.hid (sorted_any v zs W hr (by have := hok.1; omega))
  have HSL := Lib.hid (srt_len zs)
  have HSW := Lib.hid (srt_wts hok.2.2.2)
  have HLV : Hid (lev zs keep = peel (srt zs) zs.length keep) := by show _ = _; unfold lev; rw [if_neg (by omega)]
  obtain ⟨a, cap, rfl, -⟩ := h.open
  obtain ⟨n, hn⟩ : ∃ n, zs.length = n := ⟨_, rfl⟩
  obtain ⟨h1, h2, h3, -⟩ := hok
  rw [hn] at hk h1 HW HVA HSO HSL HLV ⊢
  have HWW := Lib.hid hW
  have t1 : decide ((n : Int) ≤ keep) = false := decide_eq_false (by omega)
  clear h hr hn hW
  unfold fr
  go_enter Try.func9, Try.ntmps9
  go_wp2_with fail
  rw [HWW.out]
  refine HW.out.mono ?_
  rintro e w1 ⟨rfl, rfl⟩
  obtain ⟨B0, hB0⟩ : ∃ B, w.heap.size = B := ⟨_, rfl⟩
  rw [hB0] at HB0h HB0 ⊢
  clear HW HWW
  go_wp2_with fail
  refine HVA.out.mono ?_
  rintro e w2 ⟨rfl, rfl⟩
  go_wp2_with fail
  refine HSO.out.mono ?_
  rintro e w3 ⟨v3, rfl, ho3, hb3⟩
  have HB3 : Hid (Below B0 w w3) := HB0.out.trans (hb3.mono (by have := HB0h.out.2; omega))
  have HBH : Hid (w3.heap[B0]? = some (.cells #[.int .i64 0, .int .i64 0] 25 (0, 0))) := (hb3.block _ HB0h.out.2).trans HB0h.out.1
  obtain ⟨a3, cap3, rfl, -, -, hop3⟩ := (Rd.own ho3).open
  rw [HSL.out] at hop3 ⊢
  generalize srt zs = l at *
  have HOP3 := Lib.hid hop3
  clear hb3 ho3 HVA HSO hop3 HB0h HB0 t1
  go_wp2_with fail
  obtain ⟨n', hn'⟩ : ∃ n', n = n' + 1 := ⟨n - 1, by omega⟩
  have HN' := Lib.hid hn'
  have q1 : IntKind.i64.wrap ((n : Int) - 1) = (n' : Int) := by rw [IntKind.wrap_i64]; omega
  clear hn'
  go_loopw [30, 8] (fun iv sv wr => ∃ (k : Nat) (S : Int), k ≤ n ∧ iv = .int .i64 k ∧ sv = .int .i64 S ∧ Hid (S = sm (l.take k)) ∧ Hid (∃ q, wr = w3.drewN q)) (fun iv _ _ => n - (intOf iv).toNat)
  case atStart => exact ⟨0, 0, Nat.zero_le _, rfl, rfl, rfl, ⟨0, rfl⟩⟩
  case round =>
    obtain ⟨k, S, hk', rfl, rfl, HS, HWR⟩ := hrel
    obtain ⟨q, hq⟩ := HWR.out
    subst hq
    by_cases hkn : k < n
    · obtain ⟨b, off, rfl, hb, hc⟩ := HOP3.out k hkn
      have c1 : (w3.drewN q).cell? ⟨b, off + k, none⟩ = some (.int .i64 (l.getD k 0)) := hc k hkn
      have hsm := sm_take l k (by rw [HSL.out]; exact hkn)
      have hx := HSW.out _ (getD_memI l k (by rw [HSL.out]; exact hkn))
      have hbd := (HSW.out.take k).bd
      rw [List.length_take, HSL.out, Nat.min_eq_left hk'] at hbd
      rw [← HS.out] at hsm hbd
      clear hc
      generalize l.getD k 0 = x at *
      obtain ⟨S', hS'⟩ : ∃ S', S + x = S' := ⟨_, rfl⟩
      have y1 : IntKind.i64.wrap (S + x) = S' := by rw [IntKind.wrap_i64]; omega
      have HSn : Hid (S' = sm (l.take (k + 1))) := by show _ = _; rw [hsm, hS']
      clear hsm hx hbd hS' hb
      go_wp2_with fail
      go_roundw
      case rel => exact ⟨k + 1, _, by omega, by go_num, rfl, HSn.out, ⟨_, rfl⟩⟩
      case measure => simp [intOf]; omega
    · obtain rfl : k = n := by omega
      have HST := HS
      obtain ⟨S, hSS⟩ : ∃ s, s = S := ⟨_, rfl⟩
      rw [← hSS] at HST ⊢
      clear HS hSS
      have HPE : Hid (peel l (n' + 1) keep = peel l k keep) := by show _ = _; rw [HN'.out]
      have HSN : Hid (S = sm (l.take (n' + 1))) := by show _ = _; rw [HST.out, HN'.out]
      have hn'k : n' < k := by have := HN'.out; omega
      have hkk : keep ≤ (n' : Int) + 1 := by have := HN'.out; omega
      obtain ⟨w4, hw4⟩ : ∃ X, w3.drewN q = X := ⟨_, rfl⟩
      have HB4 : Hid (Below B0 w w4) := by show Below _ _ _; rw [← hw4]; exact HB3.out.drewN q
      have HBH4 : Hid (w4.heap[B0]? = some (.cells #[.int .i64 0, .int .i64 0] 25 (0, 0))) := by show _ = _; rw [← hw4]; exact HBH.out
      have HOP4 : Hid (∀ i, i < k → ∃ b off, a3 = some ⟨b, off, none⟩ ∧ ∀ i, i < k → w4.cell? ⟨b, off + i, none⟩ = some (.int .i64 (l.getD i 0))) := fun i hi => by
        obtain ⟨b, off, e, -, hc⟩ := HOP3.out i hi
        exact ⟨b, off, e, by rw [← hw4]; exact hc⟩
      rw [hw4]
      clear HOP3 hw4 HBH HB3
      go_wp2_with fail
      clear q1
      go_loopw [12, 11, 8] (fun iv hv sv wr => ∃ (m : Nat) (d hh S : Int), m < k ∧ 1 ≤ d ∧ d ≤ m + 1 ∧ d ≤ 400 ∧ iv = .int .i64 m ∧ hv = .int .i64 hh ∧ sv = .int .i64 S ∧ Hid (hh = keep - d) ∧ Hid (S = sm (l.take (m + 1))) ∧ Hid (peel l (m + 1) d = peel l k keep) ∧ Hid (∃ q, wr = w4.drewN q)) (fun iv _ _ _ => (intOf iv).toNat)
      case atStart => exact ⟨n', keep, 0, _, hn'k, h2, hkk, h3, rfl, rfl, rfl, (by show (0 : Int) = _; omega), HSN.out, HPE.out, ⟨0, rfl⟩⟩
      case round =>
        clear HSN HPE HST hn'k hkk
        obtain ⟨m, d, hh, S, hmk, hd1, hd2, hd3, rfl, rfl, rfl, HHH, HS, HPE, HWR⟩ := hrel
        obtain ⟨q', hq'⟩ := HWR.out
        subst hq'
        have hhh := HHH.out
        have y1 : IntKind.i64.wrap (keep - hh) = d := by rw [IntKind.wrap_i64]; omega
        obtain ⟨b, off, rfl, hc⟩ := HOP4.out m hmk
        have c1 : (w4.drewN q').cell? ⟨b, off + m, none⟩ = some (.int .i64 (l.getD m 0)) := hc m hmk
        have hsm := sm_take l m (by rw [HSL.out]; exact hmk)
        have hx := HSW.out _ (getD_memI l m (by rw [HSL.out]; exact hmk))
        have hbd := (HSW.out.take (m + 1)).bd
        rw [List.length_take, HSL.out, Nat.min_eq_left hmk] at hbd
        have hpe : peel l (m + 1) d = if 1 < d ∧ S < l.getD m 0 * d then peel l m (d - 1) else (S, d) := by
          show (if _ then _ else _) = _
          rw [HS.out]
        rw [← HS.out] at hsm hbd
        have p1 : (0 ≤ (m : Int) ∧ (m : Int) < (k : Int)) = True := eq_true ⟨by omega, by omega⟩
        generalize l.getD m 0 = x at *
        by_cases g1 : 1 < d
        · have t1 : decide (1 < d) = true := decide_eq_true g1
          obtain ⟨xd, hxd⟩ : ∃ z, x * d = z := ⟨_, rfl⟩
          have hxb : 0 ≤ x * d ∧ x * d ≤ 1048576 * 400 := ⟨Int.mul_nonneg (by omega) (by omega), Int.mul_le_mul (by omega) (by omega) (by omega) (by omega)⟩
          rw [hxd] at hpe hxb
          have y2 : IntKind.i64.wrap (x * d) = xd := by rw [IntKind.wrap_i64, hxd]; omega
          by_cases g2 : S < xd
          · have t2 : decide (S < xd) = true := decide_eq_true g2
            obtain ⟨m', hm'⟩ : ∃ m', m = m' + 1 := ⟨m - 1, by omega⟩
            obtain ⟨S', hS'⟩ : ∃ z, S - x = z := ⟨_, rfl⟩
            have y3 : IntKind.i64.wrap (S - x) = S' := by rw [IntKind.wrap_i64]; omega
            obtain ⟨hh', hhh'⟩ : ∃ z, hh + 1 = z := ⟨_, rfl⟩
            have y4 : IntKind.i64.wrap (hh + 1) = hh' := by rw [IntKind.wrap_i64]; omega
            have y5 : IntKind.i64.wrap ((m : Int) - 1) = (m' : Int) := by rw [IntKind.wrap_i64]; omega
            have HSn : Hid (S' = sm (l.take (m' + 1))) := by show _ = _; rw [← hm']; omega
            have HPn : Hid (peel l (m' + 1) (d - 1) = peel l k keep) := by
              show _ = _
              rw [← HPE.out, hpe, if_pos ⟨g1, g2⟩, hm']
            have HHn : Hid (hh' = keep - (d - 1)) := by show _ = _; omega
            have hlt : m' < m := by omega
            have hd2' : d - 1 ≤ (m' : Int) + 1 := by omega
            clear hsm hx hbd hpe hxb hxd hS' hhh hhh' hm' hc hd2
            go_wp2_with fail
            go_roundw
            case rel => exact ⟨m', d - 1, hh', S', by omega, by omega, hd2', by omega, rfl, rfl, rfl, HHn.out, HSn.out, HPn.out, ⟨_, rfl⟩⟩
            case measure => simp [intOf]; omega
          · have t2 : decide (S < xd) = false := decide_eq_false g2
            have HFI : Hid ((lev zs keep).1 = S ∧ (lev zs keep).2 = d) := by
              show _ ∧ _
              rw [HLV.out, ← HPE.out, hpe, if_neg (fun h => g2 h.2)]
              exact ⟨rfl, rfl⟩
            clear hsm hx hbd hpe hxb hxd hhh hc g2
            obtain ⟨d0, d1, f0, f1, hz⟩ := cellsAt q' HBH4.out
            go_wp2_with fail
            refine bodyPost_ret (v := .tuple #[.agg #[.int .i64 S, .int .i64 d], .int .i64 0]) ?_ rfl ⟨by rw [HFI.out.1, HFI.out.2], ?_⟩
            · simp [results, Try.results9, go_sem, d0, d1, hz]
            · rw [hB0]; exact ((HB4.out.drewN q').setCell (by exact Nat.le_refl _) _).setCell (by exact Nat.le_refl _) _
        · have t1 : decide (1 < d) = false := decide_eq_false g1
          have HFI : Hid ((lev zs keep).1 = S ∧ (lev zs keep).2 = d) := by
            show _ ∧ _
            rw [HLV.out, ← HPE.out, hpe, if_neg (fun h => g1 h.1)]
            exact ⟨rfl, rfl⟩
          clear hsm hx hbd hpe hhh hc g1
          obtain ⟨d0, d1, f0, f1, hz⟩ := cellsAt q' HBH4.out
          go_wp2_with fail
          refine bodyPost_ret (v := .tuple #[.agg #[.int .i64 S, .int .i64 d], .int .i64 0]) ?_ rfl ⟨by rw [HFI.out.1, HFI.out.2], ?_⟩
          · simp [results, Try.results9, go_sem, d0, d1, hz]
          · rw [hB0]; exact ((HB4.out.drewN q').setCell (by exact Nat.le_refl _) _).setCell (by exact Nat.le_refl _) _
end Go.Proofs.Ytkmjjckpolopgaa
