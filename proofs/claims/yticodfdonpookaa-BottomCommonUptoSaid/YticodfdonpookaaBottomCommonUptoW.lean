/- The walk of BottomCommon, rows of at most 2^20 numbers. -/
import Derived.Test.YticodfdonpookaaBottomLessW
import Derived.Test.YticodfdonpookaaConcU
import Derived.Test.YticodfdonpookaaSuCpt
import Derived.Test.YticodfdonpookaaComL
set_option linter.unusedSimpArgs false
set_option linter.unusedVariables false
set_option maxRecDepth 20000
namespace Go.Proofs.Yticodfdonpookaa.bottomCommon
open Go.RowKit Go.Proofs.Yticodfdonpookaa Go.Proofs.Yticodfdonpookaa.Su
theorem cnt_step (ds ys : List (BitVec 64)) (k : Nat) (h : k < ds.length) : ((ds.take (k + 1)).filter fun z => decide (z ∈ ys)).length = ((ds.take k).filter fun z => decide (z ∈ ys)).length + if decide (ds.getD k 0#64 ∈ ys) = true then 1 else 0 := by
  rw [take_sU ds k h, List.filter_append, List.length_append]
  congr 1
  rw [List.filter_cons]
  split <;> rfl
/-- What stands behind Compact(Sorted(Values(..))). -/
def Dis (B : Nat) (w w' : World) (v : Value) (ds xs : List (BitVec 64)) : Prop := Rd w' v (us ds) ∧ ds.Nodup ∧ (∀ z, z ∈ ds ↔ z ∈ xs) ∧ Below B w w'
theorem dis_calls (B : Nat) (v : Value) (xs : List (BitVec 64)) (w0 w : World) (h : Rd w v (us xs)) (hb : Below B w0 w) (hB : B ≤ w.heap.size) (hl : xs.length ≤ 4194304) :
    Calls Try.prog 21 #[v] w (fun e w' => e = .returned (.func (.func 33) #[] #[.pointer (some ⟨w.heap.size, 0, none⟩)]) ∧ w' = w.alloc (.cells #[v] 23)) ∧
    Calls Try.prog 20 #[.func (.func 33) #[] #[.pointer (some ⟨w.heap.size, 0, none⟩)]] (w.alloc (.cells #[v] 23)) (fun e w' => ∃ v', e = .returned v' ∧ Calls Try.prog 19 #[v'] w' fun e w'' => ∃ v' ds, e = .returned v' ∧ Dis B w0 w'' v' ds xs) := by
  refine ⟨values_any v (us xs) w h, (sorted_any v (us xs) w h (by rw [us_len]; omega)).mono ?_⟩
  rintro e w' ⟨v', rfl, ho, hb'⟩
  refine ⟨v', rfl, (dis_own w.heap.size v' (us xs).length (srt (us xs)) xs w' ho (srt_len _) (srt_up _) (srt_perm _) (by rw [us_len]; omega)).mono ?_⟩
  rintro e w'' ⟨⟨v2, ds, rfl, hr, hn, hm⟩, hb2⟩
  exact ⟨v2, ds, rfl, hr, hn, hm, hb.trans ((hb'.trans hb2).mono hB)⟩
set_option maxHeartbeats 3200000 in
theorem run (s : BitVec 64) (room : Int) (a1 a2 : Option Addr) (n1 n2 c1 c2 : Nat) (xs ys : List (BitVec 64)) (w : World) (h1 : Rd w (.slice a1 n1 c1) (us xs)) (h2 : Rd w (.slice a2 n2 c2) (us ys))
    (z1 : a1 = none → n1 = 0 ∧ c1 = 0) (z2 : a2 = none → n2 = 0 ∧ c2 = 0) (b1 : n1 ≤ 1048576) (b2 : n2 ≤ 1048576) :
    Calls Try.prog 7 #[.int .u64 (U s), .int .i64 room, .slice a1 n1 c1, .slice a2 n2 c2] w fun e w' => e = .returned (.bool true) ∧ Below w.heap.size w w' := by
  have hxl : xs.length = n1 := by
    have : (us xs).length = n1 := by obtain ⟨_, _, he, _⟩ := h1.open; injection he with _ e2 _; exact e2.symm
    rwa [us_len] at this
  have hyl : ys.length = n2 := by
    have : (us ys).length = n2 := by obtain ⟨_, _, he, _⟩ := h2.open; injection he with _ e2 _; exact e2.symm
    rwa [us_len] at this
  by_cases hr : 1 ≤ room ∧ room ≤ 400
  · obtain ⟨r, rfl⟩ : ∃ r : Nat, room = (r : Int) := ⟨room.toNat, by omega⟩
    have hrN : ((r : Int)).toNat = r := by omega
    have LA := Lib.hid (fun w1 hb1 => all_any s (r : Int) _ xs w1 (h1.below (w' := w1) hb1 (Nat.le_refl _)) hr)
    have LB := Lib.hid (fun w1 hb1 => all_any s (r : Int) _ ys w1 (h2.below (w' := w1) hb1 (Nat.le_refl _)) hr)
    have hA1 := sk_len s r xs
    have hB1 := sk_len s r ys
    have hA2 := sk_asc s r xs
    have hB2 := sk_asc s r ys
    have hSS := sk_self s r xs
    have LAW := Lib.hid (com_law s r xs ys)
    rw [hrN] at LA LB
    generalize hAe : sk s r xs = A at *
    generalize hBe : sk s r ys = B at *
    have JC : Hid (∀ (v v' : Value) (w1 : World), RdN w1 v A → RdN w1 v' B → Calls Try.prog 18 #[.int .u64 (U s), .int .i64 (r : Int), v, v'] w1 fun e w' => e = .returned (.tuple #[.int .i64 (both (sk s r (A ++ B)) A B : Nat), .int .i64 ((sk s r (A ++ B)).length : Nat), .int .i64 0]) ∧ Below w1.heap.size w1 w') := fun v v' w1 g1 g2 => by
      have := common_any s (r : Int) v v' A B w1 g1 g2 hr (by omega) (by omega) hA2 hB2
      rwa [hrN] at this
    have JS : Hid (∀ (v : Value) (w1 : World), RdN w1 v A → Calls Try.prog 18 #[.int .u64 (U s), .int .i64 (r : Int), v, v] w1 fun e w' => e = .returned (.tuple #[.int .i64 (A.length : Nat), .int .i64 (A.length : Nat), .int .i64 0]) ∧ Below w1.heap.size w1 w') := fun v w1 g1 => by
      have := common_any s (r : Int) v v A A w1 g1 g1 hr (by omega) (by omega) hA2 hA2
      rwa [hrN, hSS, both_self] at this
    generalize both (sk s r (A ++ B)) A B = cn at *
    generalize (sk s r (A ++ B)).length = cm at *
    have DX := Lib.hid (fun (w1 : World) (hb1 : Below w.heap.size w w1) => dis_calls w.heap.size (.slice a1 n1 c1) xs w w1 (h1.below hb1 (Nat.le_refl _)) hb1 hb1.size (by omega))
    have DC := Lib.hid (fun (v : Value) (w1 : World) (h : Rd w1 v (us (xs ++ ys))) (hb1 : Below w.heap.size w w1) => dis_calls w.heap.size v (xs ++ ys) w w1 h hb1 hb1.size (by rw [List.length_append]; omega))
    have HCO : Hid (∀ w5 : World, Below w.heap.size w w5 → Calls Try.prog 10 #[.slice (some ⟨w5.heap.size, 0, none⟩) 2 2] (w5.alloc (.cells #[.slice a1 n1 c1, .slice a2 n2 c2] 23)) fun e w' => Below w5.heap.size w5 w' ∧ ∃ v, e = .returned v ∧ Rd w' v (us (xs ++ ys))) := fun w5 hb5 => by
      have hb6 : Below w5.heap.size w5 (w5.alloc (.cells #[.slice a1 n1 c1, .slice a2 n2 c2] 23)) := (Below.refl _ _).alloc (Nat.le_refl _) _
      have hbb := hb5.trans (hb6.mono hb5.size)
      refine (concatu_any w5.heap.size n1 c1 n2 c2 a1 a2 (us xs) (us ys) _ (h1.below hbb (Nat.le_refl _)) (h2.below hbb (Nat.le_refl _)) z1 z2 ?_ ?_ (by simp) (by omega)).mono ?_
      · rw [cell_of_row _ _ _ _ 23 (0, 0) (heap_alloc_new w5 _)]; rfl
      · rw [cell_of_row _ _ _ _ 23 (0, 0) (heap_alloc_new w5 _)]; rfl
      · rintro e w' ⟨hb, v, rfl, hv⟩
        refine ⟨hb6.trans (hb.mono (by simp)), v, rfl, ?_⟩
        rw [show us (xs ++ ys) = us xs ++ us ys by simp [us]]
        exact Rd.own hv
    have HAS := Lib.hid (fun (x : Int) (w1 : World) (hb1 : Below w.heap.size w w1) => has_any (.slice a2 n2 c2) (us ys) x w1 (h2.below hb1 (Nat.le_refl _)))
    have hrr : 1 ≤ r ∧ r ≤ 400 := by omega
    generalize U s = ss at *
    clear h1 h2 z1 z2 hr hA1 hB1 hA2 hB2 hSS hAe hBe hrN
    go_enter Try.func7, Try.ntmps7
    go_wp2_with fail
    refine (alive_any w).mono ?_
    rintro e w1 ⟨rfl, hb1⟩
    have HB1 := Lib.hid hb1
    have HC := Lib.hid (LA.out w1 hb1)
    clear hb1
    go_wp2_with fail
    refine HC.out.mono ?_
    rintro e w2 ⟨⟨va, rfl, ra⟩, hb2⟩
    have hb2' := HB1.out.trans (hb2.mono HB1.out.size)
    have HB2 := Lib.hid hb2'
    have RA := Lib.hid ra
    have HC := Lib.hid (LB.out w2 hb2')
    clear hb2 hb2' ra
    go_wp2_with fail
    refine HC.out.mono ?_
    rintro e w3 ⟨⟨vb, rfl, rb⟩, hb3⟩
    have hb3' := HB2.out.trans (hb3.mono HB2.out.size)
    have HB3 := Lib.hid hb3'
    have RA := Lib.hid (RA.out.below hb3 (Nat.le_refl _))
    have RB := Lib.hid rb
    have HC := Lib.hid (JC.out va vb w3 RA.out RB.out)
    clear hb3 hb3' rb JC
    go_wp2_with fail
    refine HC.out.mono ?_
    rintro e w4 ⟨rfl, hb4⟩
    have HB4 := Lib.hid (HB3.out.trans (hb4.mono HB3.out.size))
    have RA := Lib.hid (RA.out.below hb4 (Nat.le_refl _))
    have HC := Lib.hid (JS.out va w4 RA.out)
    clear hb4 JS RB
    go_wp2_with fail
    refine HC.out.mono ?_
    rintro e w5 ⟨rfl, hb5⟩
    have hb5' := HB4.out.trans (hb5.mono HB4.out.size)
    have HB5 := Lib.hid hb5'
    clear HC
    obtain ⟨aa, na, ca, rfl, -, hna, -⟩ := RA.out
    rw [hna]
    have HD := Lib.hid (DX.out w5 hb5').1
    have HC2 := Lib.hid (DX.out w5 hb5').2
    clear hb5 hb5' RA DX
    go_wp2_with fail
    refine HD.out.mono ?_
    rintro e w6 ⟨rfl, rfl⟩
    go_wp2_with fail
    refine HC2.out.mono ?_
    rintro e w6 ⟨vs, rfl, hc3⟩
    have HC3 := Lib.hid hc3
    clear hc3 HD HC2
    go_wp2_with fail
    refine HC3.out.mono ?_
    rintro e w7 ⟨vo, ds, rfl, hd1, hd2, hd3, hd4⟩
    have HB7 := Lib.hid hd4
    obtain ⟨nd, hnd⟩ : ∃ nd, ds.length = nd := ⟨_, rfl⟩
    obtain ⟨ao, co, rfl, hlc, hcm, hop⟩ := hd1.open
    have hul : (us ds).length = nd := by rw [us_len, hnd]
    have hndle : nd ≤ 1048576 := by
      have := nodup_le ds xs hd2 fun z hz => (hd3 z).1 hz
      omega
    rw [hul] at hop hlc ⊢
    have HO := Lib.hid hop
    have HND := Lib.hid hnd
    have HL := Lib.hid (fun es h1 h2 => LAW.out ds es hd2 hd3 h1 h2)
    clear hd1 hd2 hd3 hd4 hop hul hnd HC3 LAW
    go_wp2_with fail
    go_loopw [73, 20] (fun iv cv wr => ∃ k t : Nat, iv = .int .i64 (k : Int) ∧ cv = .int .i64 (t : Int) ∧ k ≤ nd ∧ t ≤ k ∧ Hid (t = ((ds.take k).filter fun z => decide (z ∈ ys)).length) ∧ Hid (wr = w7)) (fun iv _ _ => nd - (intOf iv).toNat)
    case atStart => exact ⟨0, 0, rfl, rfl, Nat.zero_le _, Nat.le_refl _, rfl, rfl⟩
    case round =>
      obtain ⟨k, t, rfl, rfl, hk, ht, HT, HW⟩ := hrel
      by_cases hkn : k < nd
      · have hknI : (k : Int) < (nd : Int) := by omega
        obtain ⟨b, off, rfl, hb, hc⟩ := HO.out k hkn
        have c0 : wr.cell? ⟨b, off + k, none⟩ = some (.int .u64 (U (ds.getD k 0#64))) := by rw [HW.out, ← us_get]; exact hc k hkn
        have HS := Lib.hid (cnt_step ds ys k (by rw [HND.out]; exact hkn))
        have K1 := HAS.out (U (ds.getD k 0#64)) wr (by rw [HW.out]; exact HB7.out)
        have d1 : decide (U (ds.getD k 0#64) ∈ us ys) = decide (ds.getD k 0#64 ∈ ys) := decide_eq_decide.2 (us_mem _ _)
        rw [d1] at K1
        clear hc d1
        have wt : IntKind.i64.wrap ((t : Int) + 1) = (t : Int) + 1 := wr64 (by omega)
        generalize ds.getD k 0#64 = z at *
        generalize U z = u at *
        generalize decide (z ∈ ys) = p1 at *
        have K1 := Lib.hid K1
        cases p1 with
        | true =>
          have HS2 : Hid (t + 1 = ((ds.take (k + 1)).filter fun z => decide (z ∈ ys)).length) := by show _ = _; rw [HS.out, ← HT.out]; rfl
          go_wp2_with fail
          refine K1.out.mono ?_
          rintro e w8 ⟨rfl, rfl⟩
          go_wp2_with fail
          go_roundw
          case rel => exact ⟨k + 1, t + 1, by go_num, by go_num, by omega, by omega, HS2.out, HW.out⟩
          case measure => simp [intOf]; omega
        | false =>
          have HS2 : Hid (t = ((ds.take (k + 1)).filter fun z => decide (z ∈ ys)).length) := by show _ = _; rw [HS.out, ← HT.out]; rfl
          go_wp2_with fail
          refine K1.out.mono ?_
          rintro e w8 ⟨rfl, rfl⟩
          go_wp2_with fail
          go_roundw
          case rel => exact ⟨k + 1, t, by go_num, rfl, by omega, by omega, HS2.out, HW.out⟩
          case measure => simp [intOf]; omega
      · have hknI : ¬ (k : Int) < (nd : Int) := by omega
        have HT2 : Hid (t = (ds.filter fun z => decide (z ∈ ys)).length) := by
          have := HT.out
          rwa [List.take_of_length_le (by rw [HND.out]; omega)] at this
        have hbr : Below w.heap.size w wr := by rw [HW.out]; exact HB7.out
        have HBR := Lib.hid hbr
        have HC := Lib.hid (HCO.out wr hbr)
        clear hbr HAS HO HT HW HB7 HCO
        go_wp2_with fail
        refine HC.out.mono ?_
        rintro e w8 ⟨hb8, v8, rfl, r8⟩
        have hb8' := HBR.out.trans (hb8.mono HBR.out.size)
        have HC := Lib.hid (DC.out v8 w8 r8 hb8').1
        have HC2 := Lib.hid (DC.out v8 w8 r8 hb8').2
        clear hb8 hb8' r8 DC
        go_wp2_with fail
        refine HC.out.mono ?_
        rintro e w9 ⟨rfl, rfl⟩
        go_wp2_with fail
        refine HC2.out.mono ?_
        rintro e w9 ⟨vs2, rfl, hc3⟩
        have HC3 := Lib.hid hc3
        clear hc3 HC HC2
        go_wp2_with fail
        refine HC3.out.mono ?_
        rintro e w10 ⟨ve, es, rfl, he1, he2, he3, he4⟩
        have HB10 := Lib.hid he4
        obtain ⟨l1, l2⟩ := HL.out es he2 he3
        rw [← HT2.out] at l1 l2
        obtain ⟨ne, hne⟩ : ∃ ne, es.length = ne := ⟨_, rfl⟩
        obtain ⟨ae, ce, rfl, -, -, -⟩ := he1.open
        have hul : (us es).length = ne := by rw [us_len, hne]
        rw [hne] at l2
        rw [hul]
        clear he1 he2 he3 he4 hne hul HC3 HL
        have l1I : (cn : Int) ≤ (t : Int) := by omega
        have q0 : decide ((cn : Int) ≤ (t : Int)) = true := decide_eq_true l1I
        by_cases hlt : r < ne
        · have hltI : (r : Int) < (ne : Int) := by omega
          have q1 : decide ((r : Int) < (ne : Int)) = true := decide_eq_true hltI
          clear l2
          go_wp2_with fail
          go_ret
          exact ⟨rfl, HB10.out⟩
        · have hltI : ¬ (r : Int) < (ne : Int) := by omega
          have q1 : decide ((r : Int) < (ne : Int)) = false := decide_eq_false hltI
          obtain ⟨e1, e2⟩ := l2.resolve_left hlt
          subst e1 e2
          go_wp2_with fail
          go_ret
          exact ⟨rfl, HB10.out⟩
  · have LA := Lib.hid (fun w1 hb1 => all_bad s room _ xs w1 (h1.below (w' := w1) hb1 (Nat.le_refl _)) hr)
    have LB := Lib.hid (fun w1 hb1 => all_bad s room _ ys w1 (h2.below (w' := w1) hb1 (Nat.le_refl _)) hr)
    generalize U s = ss at *
    clear h1 h2 z1 z2 hr
    go_enter Try.func7, Try.ntmps7
    go_wp2_with fail
    refine (alive_any w).mono ?_
    rintro e w1 ⟨rfl, hb1⟩
    have HB1 := Lib.hid hb1
    have HC := Lib.hid (LA.out w1 hb1)
    have HC2 := Lib.hid (LB.out w1 hb1)
    clear hb1
    go_wp2_with fail
    refine HC.out.mono ?_
    rintro e w2 ⟨rfl, rfl⟩
    go_wp2_with fail
    refine HC2.out.mono ?_
    rintro e w3 ⟨rfl, rfl⟩
    go_wp2_with fail
    go_ret
    exact ⟨rfl, HB1.out⟩
theorem walk (s room : Int) (a1 : Option Addr) (len1 cap1 : Nat) (z1 : List Int) (a2 : Option Addr) (len2 cap2 : Nat) (z2 : List Int) (w : World) (w0 : (Lit.int .u64 s).wf = true) (w1 : (Lit.int .i64 room).wf = true) (w2 : IsRow .u64 w a1 len1 cap1 z1) (r2 : len1 ≤ 1048576) (w3 : IsRow .u64 w a2 len2 cap2 z2) (r3 : len2 ≤ 1048576) :
    Calls Try.prog 7 #[.int .u64 s, .int .i64 room, .slice a1 len1 cap1, .slice a2 len2 cap2] w fun e w' => e = .returned (.bool true) ∧ Below w.heap.size w w' := by
  obtain ⟨xs, hx⟩ := us_of w2
  obtain ⟨ys, hy⟩ := us_of w3
  obtain ⟨h1, -⟩ := IsRow.rd w2
  obtain ⟨h2, -⟩ := IsRow.rd w3
  obtain ⟨x, rfl⟩ := U_of w0
  rw [← hx] at h1
  rw [← hy] at h2
  have g : ∀ (a : Option Addr) (n c : Nat) (z : List Int), IsRow .u64 w a n c z → a = none → n = 0 ∧ c = 0 := fun a n c z h e => by
    rcases h with ⟨-, h2, h3, -⟩ | ⟨x, h1, -⟩
    · exact ⟨h2, h3⟩
    · rw [e] at h1; cases h1
  exact run x room _ _ _ _ _ _ xs ys w h1 h2 (g _ _ _ _ w2) (g _ _ _ _ w3) r2 r3
end Go.Proofs.Yticodfdonpookaa.bottomCommon
