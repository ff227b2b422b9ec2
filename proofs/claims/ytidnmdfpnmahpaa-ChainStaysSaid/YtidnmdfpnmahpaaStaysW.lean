/- chain.SStays: what it answers. Condition: a row that stands still, in lowest terms. -/
import Derived.Test.YtidnmdfpnmahpaaBigTerm
import Derived.Test.YtidnmdfpnmahpaaRest
set_option linter.unusedSimpArgs false
set_option linter.unusedVariables false
set_option maxRecDepth 20000
namespace Go.Proofs.Ytidnmdfpnmahpaa
open Go.RowKit Big
theorem Big.RN.rput {w w' : World} {zb : Nat} {v : Value} {N : Nat} {ng : Bool} {A B : Nat} (h : RN w v N) (hx : Box w zb 4) (hp : RPut w w' zb ng A B) : RN w' v N := by
  obtain ⟨ds, ⟨a, cap, rfl, h1, h2, h3⟩, h4, h5, h6⟩ := h
  refine ⟨ds, ⟨a, cap, rfl, h1, h2, ?_⟩, h4, h5, h6⟩
  rcases h3 with h3 | ⟨g, off, rfl, hlt, hc⟩
  · exact .inl h3
  · by_cases hz : Big.castN ds = []
    · exact .inl hz
    · refine .inr ⟨g, off, rfl, Nat.lt_of_lt_of_le hlt hp.size, fun i hi => ?_⟩
      have hne : g ≠ zb := fun e => by
        subst e
        have h0 := hc 0 (List.length_pos_iff.2 hz)
        obtain ⟨cs, t, hh, -, hk⟩ := hx
        rw [cell_of_row _ _ _ _ _ _ hh] at h0
        rcases hk _ _ h0 with ⟨x, e⟩ | ⟨_, _, _, e⟩ <;> cases e
      exact (World.cell?_of_block (hp.block g hlt hne)).trans (hc i hi)
theorem Big.RPut.other {w w' : World} {zb xb xo : Nat} {ng nx : Bool} {A B X : Nat} (hp : RPut w w' zb ng A B) (hx : Box w zb 4) (h : NA w xb xo nx X) (hne : xb ≠ zb) : NA w' xb xo nx X := by
  have hl := h.lt
  obtain ⟨v, h1, h2, h3⟩ := h
  exact ⟨v, (World.cell?_of_block (hp.block xb hl hne)).trans h1, (World.cell?_of_block (hp.block xb hl hne)).trans h2, h3.rput hx hp⟩
theorem Big.RPut.obox {w w' : World} {zb b m : Nat} {ng : Bool} {A B : Nat} (hp : RPut w w' zb ng A B) (h : Box w b m) (hne : b ≠ zb) : Box w' b m := by
  obtain ⟨cs, t, hh, hs⟩ := h
  exact ⟨cs, t, (hp.block b (lt_of_block hh) hne).trans hh, hs⟩
theorem Big.Box.drew {w : World} {b m : Nat} (h : Box w b m) : Box w.drew b m := h
def sN (M : List (List Int)) (j : Nat) : Nat := (sumL (M.getD j [])).toNat
def wN (M : List (List Int)) (j i : Nat) : Nat := ((M.getD j []).getD i 0).toNat
def prodS (M : List (List Int)) : Nat → Nat
  | 0 => 1
  | k + 1 => prodS M k * sN M k
/-- The sum of l_j w_ji / s_j for j below k, over all s. -/
def flow (M : List (List Int)) (L : List Nat) (i : Nat) : Nat → Nat
  | 0 => 0
  | k + 1 => flow M L i k * sN M k + L.getD k 0 * wN M k i * prodS M k
theorem elem_le : ∀ (l : List Int), (∀ x ∈ l, 0 ≤ x) → ∀ i, l.getD i 0 ≤ sumL l
  | [], _, i => by simp [sumL]
  | x :: r, h, i => by
    have h1 := h x List.mem_cons_self
    have h2 := elem_le r fun y hy => h y (List.mem_cons_of_mem _ hy)
    have h3 : 0 ≤ sumL r := by
      have := h2 r.length
      rw [List.getD_eq_getElem?_getD, List.getElem?_eq_none (Nat.le_refl _)] at this
      exact this
    cases i with
    | zero => simp [sumL]; omega
    | succ i => have := h2 i; simp [sumL] at this ⊢; omega
theorem gcdF_app : ∀ (l : List Nat) (x g : Nat), gcdF (l ++ [x]) g = Nat.gcd x (gcdF l g)
  | [], _, _ => rfl
  | y :: r, x, g => gcdF_app r x (Nat.gcd y g)
set_option maxHeartbeats 6400000 in
theorem sstays_run (a al : Option Addr) (n c cl : Nat) (M : List (List Int)) (L : List Nat) (w : World) (h : RdM w (.slice a n c) M) (hg : Good n M) (hr : Rd w (.slice al n cl) (castN L)) (hL : ∀ i, i < n → 1 ≤ L.getD i 0 ∧ L.getD i 0 ≤ 4428675000) (hG : gcdF L 0 = 1) (hS : ∀ i, i < n → flow M L i n = L.getD i 0 * prodS M n) :
    Calls Try.prog 10 #[.slice a n c, .slice al n cl] w fun e w' => e = .returned (.bool true) ∧ Below w.heap.size w w' := by
  obtain ⟨hl, hc1, hc2⟩ := h.lenEq
  obtain ⟨hl', hc3, hc4⟩ := hr.lenEq
  have h1n := hg.2.1
  have h5n := hg.2.2.1
  have HM := Lib.hid h
  have HR := Lib.hid hr
  have HS := Lib.hid hS
  have HLB := Lib.hid hL
  have HGG := Lib.hid hG
  have HG : Hid (∀ i, i < n → (M.getD i []).length = n ∧ (∀ x ∈ M.getD i [], 0 ≤ x ∧ x ≤ 9)) := fun i hi => by
    obtain ⟨r1, r2, -⟩ := hg.2.2.2 _ (getD_mem M i [] (by omega))
    exact ⟨r1, r2⟩
  have HSB := Lib.hid (sum_bd45 hg)
  have HSN : Hid (∀ j, j < n → ((sN M j : Nat) : Int) = sumL (M.getD j [])) := fun j hj => Int.toNat_of_nonneg (by have := (HSB.out j hj).1; omega)
  have HWN : Hid (∀ j i, j < n → i < n → ((wN M j i : Nat) : Int) = (M.getD j []).getD i 0 ∧ wN M j i ≤ sN M j) := fun j i hj hi => by
    obtain ⟨r1, r2⟩ := HG.out j hj
    have h1 := r2 _ (getD_mem _ i 0 (by omega))
    have h2 := elem_le (M.getD j []) (fun x hx => (r2 x hx).1) i
    have e1 : ((wN M j i : Nat) : Int) = (M.getD j []).getD i 0 := Int.toNat_of_nonneg h1.1
    refine ⟨e1, ?_⟩
    have := HSN.out j hj
    omega
  have HLN : Hid (∀ i, (castN L).getD i 0 = ((L.getD i 0 : Nat) : Int)) := fun i => castN_get L i
  have HGA : Hid (∀ i, i < n → gcdF (L.take (i + 1)) 0 = Nat.gcd (gcdF (L.take i) 0) (L.getD i 0)) := fun i hi => by
    have hll : L.length = n := by simpa [castN] using hl'
    show _ = _
    rw [Nat.gcd_comm, ← gcdF_app, List.take_add_one, List.getElem?_eq_getElem (by omega)]
    congr 2
    rw [List.getD_eq_getElem?_getD, List.getElem?_eq_getElem (by omega)]; rfl
  have HGN : Hid (gcdF (L.take n) 0 = 1) := by
    have hll : L.length = n := by simpa [castN] using hl'
    show _ = _
    rw [List.take_of_length_le (by omega)]; exact hG
  have HGB : Hid (∀ i, gcdF (L.take i) 0 ≤ 4428675000) := fun i => gcdF_le _ _ _ (fun x hx => by
    have hx2 := List.mem_of_mem_take hx
    obtain ⟨k, hk, rfl⟩ := List.getElem_of_mem hx2
    have hll : L.length = n := by simpa [castN] using hl'
    have := (hL k (by omega)).2
    rw [List.getD_eq_getElem?_getD, List.getElem?_eq_getElem hk] at this
    exact this) (by decide)
  have HPS : Hid (∀ k, k ≤ n → 0 < prodS M k) := fun k => by
    induction k with
    | zero => intro _; exact Nat.one_pos
    | succ k ih => intro hk; exact Nat.mul_pos (ih (by omega)) (by have := (HSB.out k (by omega)).1; have := HSN.out k (by omega); omega)
  have HB0 := Lib.hid ((Below.refl w.heap.size w).alloc (Nat.le_refl _) (.cells #[.bool false, .slice none 0 0] 46))
  have HN0 := Lib.hid (NA.new w 46)
  have HX0 := Lib.hid (Box.new w 46)
  obtain ⟨bl, ol, rfl, hbl, hcl⟩ := HR.out.at (by omega)
  obtain ⟨bm, om, U, rfl, hbm, hU⟩ := HM.out.at (by omega)
  have HCL : Hid (∀ X j, Below w.heap.size w X → j < n → X.cell? ⟨bl, ol + j, none⟩ = some (.int .i64 ((L.getD j 0 : Nat) : Int))) := fun X j hX hj => by
    rw [← HLN.out j]; exact (World.cell?_of_block (hX.block bl hbl)).trans (hcl j hj)
  have HROW : Hid (∀ j, j < n → ∃ b o cc, b < w.heap.size ∧ (∀ X, Below w.heap.size w X → X.cell? ⟨bm, om + j, none⟩ = some (.slice (some ⟨b, o, none⟩) n cc)) ∧ ∀ X k, Below w.heap.size w X → k < n → X.cell? ⟨b, o + k, none⟩ = some (.int .i64 ((M.getD j []).getD k 0))) := fun j hj => by
    obtain ⟨h1, h2⟩ := hU j hj
    obtain ⟨a', c', he, h3, h4, -⟩ := h2.open
    rw [(HG.out j hj).1] at he
    rw [he] at h1 h2
    obtain ⟨b, o, rfl, hb, hc⟩ := h2.at (by omega)
    exact ⟨b, o, c', hb, fun X hX => (World.cell?_of_block (hX.block bm hbm)).trans h1, fun X k hX hk => (World.cell?_of_block (hX.block b hb)).trans (hc k hk)⟩
  clear h hg hr hL hG hS hl hl' hcl hU hbl hbm
  go_enter Try.func10, Try.ntmps10
  go_wp2_with fail
  go_loopw [21] (fun iv wr => ∃ i : Nat, i ≤ n ∧ iv = .int .i64 i ∧ Hid (Box wr w.heap.size 2) ∧ Hid (NA wr w.heap.size 0 false (gcdF (L.take i) 0)) ∧ Hid (Below w.heap.size w wr)) (fun iv _ => n - (intOf iv).toNat)
  case atStart => exact ⟨0, Nat.zero_le _, rfl, HX0.out, HN0.out, HB0.out⟩
  case round =>
    clear HX0 HN0 HB0
    obtain ⟨i, hin, rfl, HX, HN, HB⟩ := hrel
    by_cases hil : i < n
    · have hiI : (i : Int) < (n : Int) := by omega
      have cl0 := HCL.out wr i HB.out hil
      obtain ⟨hx1, hx2⟩ := HLB.out i hil
      obtain ⟨x, hx⟩ : ∃ x, L.getD i 0 = x := ⟨_, rfl⟩
      rw [hx] at cl0 hx1 hx2
      have HXI := Lib.hid hx
      clear hx
      have hlt1 : decide ((x : Int) < 1) = false := decide_eq_false (by omega)
      have HRA0 := Lib.hid (RA.new wr 49)
      have hwl := HX.out.lt
      have HB1 := Lib.hid ((Below.refl wr.heap.size wr).alloc (Nat.le_refl _) (.cells #[.bool false, .slice none 0 0, .bool false, .slice none 0 0] 49))
      obtain ⟨wo, rfl⟩ : ∃ wo : World, wo = wr := ⟨_, rfl⟩
      go_wp2_with fail
      go_loopw [32] (fun jv wr => ∃ (j A B : Nat), j ≤ n ∧ jv = .int .i64 j ∧ Hid (RA wr wo.heap.size false A B) ∧ Hid (PartI A B (prodS M j) (flow M L i j) j) ∧ Hid (Box wr w.heap.size 2) ∧ Hid (NA wr w.heap.size 0 false (gcdF (L.take i) 0)) ∧ Hid (Below w.heap.size w wr)) (fun jv _ => n - (intOf jv).toNat)
      case atStart => exact ⟨0, 0, 0, Nat.zero_le _, rfl, HRA0.out, PartI.zero, HX.out.below HB1.out hwl, HN.out.below HB1.out, HB.out.trans (HB1.out.mono HB.out.size)⟩
      case round =>
        clear HRA0 HX HN HB1
        obtain ⟨j, A, B, hjn, rfl, HRA, HPI, HX, HN, HBq⟩ := hrel
        by_cases hjl : j < n
        · have hjI : (j : Int) < (n : Int) := by omega
          obtain ⟨b, o, cc, hb, hcr, hce⟩ := HROW.out j hjl
          have HRC : Hid (∀ X, Below w.heap.size w X → X.cell? ⟨bm, om + j, none⟩ = some (.slice (some ⟨b, o, none⟩) n cc)) := hcr
          have HRE := Lib.hid hce
          have HRB := Lib.hid hb
          have cr0 := HRC.out wr HBq.out
          have HTK : Hid (∀ k, k < n → sumL ((M.getD j []).take (k + 1)) = sumL ((M.getD j []).take k) + (M.getD j []).getD k 0) := fun k hk => sumL_take _ k (by rw [(HG.out j hjl).1]; exact hk)
          have HTA : Hid (sumL ((M.getD j []).take n) = sumL (M.getD j [])) := by show _ = _; rw [List.take_of_length_le (by rw [(HG.out j hjl).1]; exact Nat.le_refl _)]
          have HTB : Hid (∀ k, 0 ≤ sumL ((M.getD j []).take k) ∧ sumL ((M.getD j []).take k) ≤ 1000000000) := fun k => by
            obtain ⟨r1, r2⟩ := HG.out j hjl
            have h1 := sumL_nn ((M.getD j []).take k) fun x hx => by have := r2 x (List.mem_of_mem_take hx); omega
            have h2 : ((M.getD j []).take k).length ≤ 1000 := by rw [List.length_take]; omega
            omega
          have HTX : Hid (∀ k, k < n → 0 ≤ (M.getD j []).getD k 0 ∧ (M.getD j []).getD k 0 ≤ 1000000) := fun k hk => by
            obtain ⟨r1, r2⟩ := HG.out j hjl
            have := r2 _ (getD_mem _ k 0 (by omega)); omega
          clear hcr hce hb
          obtain ⟨q, hq⟩ : ∃ q, M.getD j [] = q := ⟨_, rfl⟩
          rw [hq] at HTK HTA HTB HTX HRE
          have HQ := Lib.hid hq
          clear hq
          go_wp2_with fail
          go_loop [39, 10] (fun kv sv => ∃ k : Nat, k ≤ n ∧ kv = .int .i64 k ∧ sv = .int .i64 (sumL (q.take k))) (fun kv _ => n - (intOf kv).toNat)
          case atStart => exact ⟨0, Nat.zero_le _, rfl, rfl⟩
          case round =>
            obtain ⟨k, hkn, rfl, rfl⟩ := hrel
            by_cases hkl : k < n
            · have hkI : (k : Int) < (n : Int) := by omega
              have ck := HRE.out wr k HBq.out hkl
              obtain ⟨hs1, hs2⟩ := HTB.out k
              obtain ⟨hy1, hy2⟩ := HTX.out k hkl
              have HTj := Lib.hid (HTK.out k hkl)
              generalize q.getD k 0 = y at *
              generalize sumL (q.take k) = sk at *
              go_wp2_with fail
              go_round
              case rel => exact ⟨k + 1, by omega, by go_num, by rw [HTj.out]⟩
              case measure => simp [intOf]; omega
            · obtain rfl : k = n := by omega
              rw [HTA.out]
              have hsn := HSN.out j hjl
              obtain ⟨hwn, hws⟩ := HWN.out j i hjl hil
              have hsb := HSB.out j hjl
              rw [HQ.out] at hsn hwn hsb
              obtain ⟨hxj1, hxj2⟩ := HLB.out j hjl
              obtain ⟨y, hy⟩ : ∃ y, L.getD j 0 = y := ⟨_, rfl⟩
              rw [hy] at hxj1 hxj2
              have HYJ := Lib.hid hy
              obtain ⟨v, hv⟩ : ∃ v, wN M j i = v := ⟨_, rfl⟩
              rw [hv] at hwn hws
              have HVJ := Lib.hid hv
              obtain ⟨s, hs⟩ : ∃ s, sN M j = s := ⟨_, rfl⟩
              rw [hs] at hsn hws
              have HSJ := Lib.hid hs
              have HC : Hid (∀ X, Below wr.heap.size wr X → (X.cell? ⟨bl, ol + j, none⟩ = some (.int .i64 (y : Int)) ∧ X.cell? ⟨b, o + i, none⟩ = some (.int .i64 (v : Int))) ∧ ∀ ob : Obj, (X.alloc ob).cell? ⟨bl, ol + j, none⟩ = some (.int .i64 (y : Int)) ∧ (X.alloc ob).cell? ⟨b, o + i, none⟩ = some (.int .i64 (v : Int))) := fun X hX => by
                have hBX : Below w.heap.size w X := HBq.out.trans (hX.mono HBq.out.size)
                have c1 := fun Z hZ => HCL.out Z j hZ hjl
                have c2 := fun Z hZ => HRE.out Z i hZ hil
                rw [hy] at c1
                rw [← hwn] at c2
                exact ⟨⟨c1 X hBX, c2 X hBX⟩, fun ob => ⟨c1 _ (hBX.alloc hBX.size ob), c2 _ (hBX.alloc hBX.size ob)⟩⟩
              have hj4 : j ≤ 4 := by omega
              rw [← hsn] at hsb ⊢
              have hs0 : 0 < s := by omega
              have hs45 : s ≤ 45 := by omega
              have HNR1 : Hid (∀ X, Calls Try.prog 24 #[.int .i64 (y : Int), .int .i64 1] X fun e w' => RFresh X w' e false y 1) := fun X => term_rat y X (by omega)
              have HNR2 : Hid (∀ X, Calls Try.prog 24 #[.int .i64 (v : Int), .int .i64 (s : Int)] X fun e w' => ∃ c d, RFresh X w' e false c d ∧ c * s = d * v ∧ 0 < d ∧ d ≤ s ∧ c ≤ v) := fun X => quot_rat v s X (by omega) (by omega) hs0
              obtain ⟨⟨k1, k2⟩, k3⟩ := HC.out wr (Below.refl _ _)
              have k4 := fun ob => (k3 ob).1
              have k5 := fun ob => (k3 ob).2
              clear hy hv hs k3 hsn hwn cr0
              go_wp2_with fail
              go_region_law (first
                | (go_simp; go_at_call 24; (with_reducible refine (HNR1.out _).mono ?_); rintro e w1 ⟨r1, rfl, hr1, ra1, hb1'⟩; have hp1 : Below wr.heap.size wr w1 := (by first | exact ((Below.refl wr.heap.size wr).drew).trans hb1' | exact (((Below.refl wr.heap.size wr).alloc (Nat.le_refl _) (.cells #[.bool false, .slice none 0 0, .bool false, .slice none 0 0] 49)).drew).trans (hb1'.mono (by show wr.heap.size ≤ (wr.alloc _).heap.size; simp))); obtain ⟨⟨m1, m2⟩, m3⟩ := HC.out w1 hp1; have m4 := fun ob => (m3 ob).1; have m5 := fun ob => (m3 ob).2; clear m3)
                | (go_simp; go_at_call 24; (with_reducible refine (HNR2.out _).mono ?_); rintro e w2 ⟨c', d, ⟨r2, rfl, hr2, ra2, hb2'⟩, t1, t2, t3, t4⟩; have hp2 : Below w1.heap.size w1 w2 := (by first | exact hb2' | exact ((Below.refl w1.heap.size w1).alloc (Nat.le_refl _) _).trans (hb2'.mono (by simp))); have hp12 : Below wr.heap.size wr w2 := hp1.trans (hp2.mono hp1.size))
                | (go_simp; go_at_call 23; (refine (term_mul _ r1 r2 y c' d v s _ (by first | exact Box.new4 w2 49 | exact (Box.new4 w1 49).below hb2' (Box.new4 w1 49).lt | exact ((Box.new4 wr 49).drew.below hb1' (Box.new4 wr 49).lt).below hp2 (Nat.lt_of_lt_of_le (Box.new4 wr 49).lt hb1'.size)) (by first | exact ra1.below hp2 | exact (ra1.below hp2).below ((Below.refl w2.heap.size w2).alloc (Nat.le_refl _) _)) (by first | exact ra2 | exact ra2.below ((Below.refl w2.heap.size w2).alloc (Nat.le_refl _) _)) hxj2 hs45 hs0 hws t1 t2 t3 t4).mono ?_); rintro e w3 ⟨rfl, P, Q, hq3, u1, u2, u3⟩; have hp3 : Below wr.heap.size wr w3 := (by first | exact hp12.trans (hq3.below (by first | exact Nat.le_refl _ | exact hp1.size | exact hp12.size) hp12.size) | exact (hp12.trans (((Below.refl w2.heap.size w2).alloc (Nat.le_refl _) (.cells #[.bool false, .slice none 0 0, .bool false, .slice none 0 0] 49)).mono hp12.size)).trans (hq3.below (by first | exact Nat.le_refl _ | exact hp1.size | exact hp12.size) (Nat.le_trans hp12.size (by simp))));  have ra3 := hq3.ra; clear hq3)
                | (go_simp; go_at_call 22; (refine (term_add wo.heap.size _ A B P Q (prodS M j) (flow M L i j) j s y v w3 (HRA.out.below hp3) ra3 hj4 HPI.out u1 u2 u3 hws hs0 hxj2).mono ?_); rintro e w4 ⟨rfl, A', B', hq4, hpi⟩))
              all_goals
                have HRA4 := Lib.hid hq4.ra
                have HX4 := Lib.hid (hq4.obox (HX.out.below hp3 HX.out.lt) (by omega))
                have HN4 := Lib.hid (hq4.other (HRA.out.below hp3).1 (HN.out.below hp3) (by omega))
                have HB4 := Lib.hid ((HBq.out.trans (hp3.mono HBq.out.size)).trans (hq4.below (by omega) (Nat.le_trans HBq.out.size hp3.size)))
                have HPI4 : Hid (PartI A' B' (prodS M (j + 1)) (flow M L i (j + 1)) (j + 1)) := by
                  show PartI A' B' (prodS M j * sN M j) (flow M L i j * sN M j + L.getD j 0 * wN M j i * prodS M j) (j + 1)
                  rw [HSJ.out, HYJ.out, HVJ.out]; exact hpi
                clear hq4 hpi ra3 hp3 u1 u2 u3 hp12 hp2 hp1 hb1' hb2' ra1 ra2 t1 t2 t3 t4 hr1 hr2 m1 m2 m4 m5 k1 k2 k4 k5 HRA HX HN HBq HPI
                go_wp2_with fail
                go_roundw
                case rel => exact ⟨j + 1, A', B', by omega, by go_num, HRA4.out, HPI4.out, HX4.out, HN4.out, HB4.out⟩
                case measure => simp [intOf]; omega
        · obtain rfl : j = n := by omega
          have hpi := HPI.out
          rw [HS.out i hil, HXI.out] at hpi
          obtain ⟨rfl, rfl⟩ := hpi.whole h1n (HPS.out _ (Nat.le_refl _))
          have cl1 := HCL.out wr i HBq.out hil
          rw [HXI.out] at cl1
          have HNR := Lib.hid (term_rat A wr (by omega))
          have HCL1 : Hid (∀ X, Below wr.heap.size wr X → X.cell? ⟨bl, ol + i, none⟩ = some (.int .i64 (A : Int))) := fun X hX => by
            rw [← HXI.out]; exact HCL.out X i (HBq.out.trans (hX.mono HBq.out.size)) hil
          have hxl := HX.out.lt
          clear hpi HPI
          go_wp2_with fail
          refine HNR.out.mono ?_
          rintro e w1 ⟨r1, rfl, hr1, ra1, hb1⟩
          have HCMP := Lib.hid (rcmp_same wo.heap.size r1 A 1 w1 (HRA.out.below hb1) ra1 (by omega) (by decide) (Nat.gcd_one_right A) (by omega) (by decide))
          have HB1 := Lib.hid hb1
          have cl2 := HCL1.out w1 hb1
          clear ra1 hb1 HNR cl1
          go_wp2_with fail
          refine HCMP.out.mono ?_
          rintro e w2 ⟨rfl, hb2⟩
          have HB2 := Lib.hid (HB1.out.trans (hb2.mono HB1.out.size))
          have cl3 := HCL1.out w2 HB2.out
          have HNI := Lib.hid (newint_any A w2 (by omega))
          clear hb2 HCMP cl2
          go_wp2_with fail
          refine HNI.out.mono ?_
          rintro e w3 ⟨r3, rfl, d1, d2, d3, d4⟩
          have HB3 := Lib.hid (HB2.out.trans (d4.mono HB2.out.size))
          have HX3 := Lib.hid (HX.out.below HB3.out hxl)
          have hgb := HGB.out i
          have HGC := Lib.hid (gcd_any w.heap.size 0 2 w.heap.size 0 r3 0 false false (gcdF (L.take i) 0) A w3 HX3.out (by decide) (HN.out.below HB3.out) d3 (by omega) (by omega))
          have HGAi := HGA.out i hil
          rw [HXI.out] at HGAi
          rw [← HGAi] at HGC
          clear d1 d2 d3 d4 HNI cl3 HGAi hgb
          go_wp2_with fail
          refine HGC.out.mono ?_
          rintro e w4 ⟨rfl, hp4⟩
          have HX4 := Lib.hid (hp4.box HX3.out)
          have HN4 := Lib.hid (hp4.at HX3.out (by decide))
          have HB4 := Lib.hid ((HBq.out.trans (HB3.out.mono HBq.out.size)).trans (hp4.below (Nat.le_refl _) (Nat.le_trans HBq.out.size HB3.out.size)))
          clear hp4 HGC
          go_wp2_with fail
          exact ⟨⟨i + 1, by omega, by go_num, HX4.out, HN4.out, HB4.out⟩, by simp [intOf]; omega⟩
    · obtain rfl : i = n := by omega
      have HN1 := HN.out
      rw [HGN.out] at HN1
      have HNN := Lib.hid HN1
      have HNI := Lib.hid (newint_any 1 wr (by decide))
      clear HN1 HN
      go_wp2_with fail
      refine HNI.out.mono ?_
      rintro e w1 ⟨r1, rfl, d1, d2, d3, d4⟩
      have HB1 := Lib.hid (HB.out.trans (d4.mono HB.out.size))
      have HCM := Lib.hid (icmp_same w.heap.size r1 1 w1 (HNN.out.below d4) d3)
      clear d2 d3 d4 HNI
      go_wp2_with fail
      refine HCM.out.mono ?_
      rintro e w2 ⟨rfl, hb2⟩
      have HB2 := Lib.hid (HB1.out.trans (hb2.mono HB1.out.size))
      clear hb2 HCM
      go_wp2_with fail
      go_ret
      exact ⟨rfl, HB2.out⟩
end Go.Proofs.Ytidnmdfpnmahpaa
