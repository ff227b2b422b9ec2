/- The walk of CoinSplit. No condition. -/
import Derived.Test.YtkdidgkanfjfmaaSplit
import Derived.Test.YtkdidgkanfjfmaaAl
set_option linter.unusedSimpArgs false
set_option linter.unusedVariables false
namespace Go.Proofs.Ytkdidgkanfjfmaa.coinSplit
open Go.RowKit Go.Proofs.Ytkdidgkanfjfmaa
def tabI (n : Nat) (f : Nat → Nat) : List Int := (List.range n).map fun d => (f d : Int)
theorem tabI_len (n : Nat) (f : Nat → Nat) : (tabI n f).length = n := by simp [tabI]
theorem tabI_get (n : Nat) (f : Nat → Nat) (d : Nat) (h : d < n) : (tabI n f).getD d 0 = f d := by
  simp [tabI, List.getD_eq_getElem?_getD, List.getElem?_map, List.getElem?_range, h]
theorem zeros_tabI (n : Nat) : List.replicate n (0 : Int) = tabI n (fun _ => 0) := by
  apply List.ext_getElem (by simp [tabI])
  intro i h1 h2; simp [tabI]
theorem tabI_congr {n : Nat} {f g : Nat → Nat} (h : ∀ d, d < n → f d = g d) : tabI n f = tabI n g := by
  unfold tabI
  apply List.map_congr_left
  intro d hd; rw [h d (List.mem_range.1 hd)]
theorem tabI_set (n : Nat) (f : Nat → Nat) (j : Nat) (x : Nat) : (tabI n f).set j (x : Int) = tabI n (fun d => if d = j then x else f d) := by
  apply List.ext_getElem (by simp [tabI])
  intro i h1 h2
  simp only [tabI, List.getElem_set, List.getElem_map, List.getElem_range]
  by_cases h : j = i
  · subst h; simp
  · rw [if_neg h, if_neg (fun e => h e.symm)]
theorem info3t : (Try.prog.info? 3).map (fun i => (i.zero, i.size, i.bytes)) = some (some (.int .i64 0), 1, 8) := by kernel_rfl
def OI (w : World) (base g n : Nat) (f : Nat → Nat) : Prop := w.ownsRow base 3 1 (.slice (some ⟨g, 0, none⟩) n n) n ((tabI n f).map (Value.int .i64))
theorem OI.get {w : World} {base g n : Nat} {f : Nat → Nat} (h : OI w base g n f) (j : Nat) (hj : j < n) : w.cell? ⟨g, j, none⟩ = some (.int .i64 (f j : Nat)) := by
  have := own_get h j hj
  rwa [tabI_get _ _ _ hj] at this
theorem OI.frozen {w : World} {base g n : Nat} {f : Nat → Nat} (h : OI w base g n f) (j : Nat) : w.frozen? ⟨g, j, none⟩ = false := World.ownsRow.frozenAt h j
theorem OI.set {w : World} {base g n : Nat} {f : Nat → Nat} (h : OI w base g n f) (j x : Nat) : OI (w.setCell ⟨g, j, none⟩ (.int .i64 (x : Int))) base g n (fun i => if i = j then x else f i) := by
  have := own_set h j (x : Int)
  rwa [tabI_set] at this
theorem OI.congr {w : World} {base g n : Nat} {f f' : Nat → Nat} (h : OI w base g n f) (he : ∀ i, i < n → f i = f' i) : OI w base g n f' := by
  unfold OI at h ⊢
  rwa [tabI_congr he] at h
theorem OI.lt {w : World} {base g n : Nat} {f : Nat → Nat} (h : OI w base g n f) : base ≤ g ∧ g < w.heap.size := own_lt h
theorem OI.rd {w : World} {base g n : Nat} {f : Nat → Nat} (h : OI w base g n f) : Rd w (.slice (some ⟨g, 0, none⟩) n n) (tabI n f) := Rd.own h
theorem OI.below {w w' : World} {base B g n : Nat} {f : Nat → Nat} (h : OI w base g n f) (hb : Below B w w') (hB : w.heap.size ≤ B) : OI w' base g n f := own_below h hb hB
theorem OI.made {w : World} {base g n : Nat} (h : w.ownsRow base 3 1 (.slice (some ⟨g, 0, none⟩) n n) n (madeCells #[Value.int .i64 0] n).toList) : OI w base g n (fun _ => 0) := by
  rw [zeros_eq, zeros_tabI] at h; exact h

def picked (ws : List Nat) (n j x : Nat) : Nat := tot (fun y => pk j (ofF 0 (sumW ws) ws (tp n y))) x
def ended (ws : List Nat) (n x : Nat) : Nat := tot (fun y => en (ofF 0 (sumW ws) ws (tp n y))) x
theorem pk_le (j : Nat) (o : Option (Nat × Nat)) : pk j o ≤ 1 := by
  cases o with
  | none => exact Nat.zero_le _
  | some q => show (if q.1 = j then 1 else 0) ≤ 1; split <;> omega
theorem en_le (o : Option (Nat × Nat)) : en o ≤ 1 := by cases o <;> simp [en]
theorem sumW_le : ∀ (ws : List Nat), (∀ i, i < ws.length → ws.getD i 0 ≤ 1048576) → sumW ws ≤ ws.length * 1048576
  | [], _ => Nat.zero_le _
  | w :: ws, h => by
    have h0 := h 0 (by simp)
    have h1 := sumW_le ws (fun i hi => by have := h (i + 1) (by simpa using hi); simpa using this)
    simp only [List.getD_cons_zero] at h0
    simp only [sumW, List.length_cons, Nat.add_mul, Nat.one_mul]; omega
theorem sumW_take (ws : List Nat) (i : Nat) (h : i < ws.length) : sumW (ws.take (i + 1)) = sumW (ws.take i) + ws.getD i 0 := by
  have a := sumW_split ws i
  have b := sumW_split ws (i + 1)
  have c : sumW (ws.drop i) = ws.getD i 0 + sumW (ws.drop (i + 1)) := by rw [drop_consN h]; rfl
  omega
set_option maxRecDepth 10000 in
set_option maxHeartbeats 3200000 in
theorem walk_main (v : Value) (zs : List Int) (n : Nat) (hn : n ≤ 10) (hlen : zs.length ≤ 6) (w : World) (h : Rd w v zs) :
    Calls Try.prog 6 #[v, .int .i64 n] w fun e w' => e = .returned (.bool true) ∧ Below w.heap.size w w' := by
  obtain ⟨i0, hinfo, hz0, hz1, hz2⟩ := info_parts info3t
  obtain ⟨a, cap, rfl, hlc, hcm, hop⟩ := h.open
  have HRD := Lib.hid h
  have HOP := Lib.hid hop
  clear h hop
  obtain ⟨ws, hws⟩ : ∃ ws, ws = zs.map Int.toNat := ⟨_, rfl⟩
  have hwl : ws.length = zs.length := by rw [hws]; simp
  have HWS : Hid (∀ i, i < zs.length → 0 ≤ zs.getD i 0 → zs.getD i 0 = (ws.getD i 0 : Nat)) := fun i hi h0 => by
    rw [hws]
    simp only [List.getD_eq_getElem?_getD, List.getElem?_map, List.getElem?_eq_getElem hi, Option.map_some, Option.getD_some] at h0 ⊢
    omega
  have HBack : Hid ((∀ i, i < zs.length → 0 ≤ zs.getD i 0) → ws.map (fun n : Nat => (n : Int)) = zs) := fun h => by
    rw [hws, List.map_map]
    apply List.ext_getElem (by simp)
    intro i h1 h2
    have := h i h2
    simp only [List.getD_eq_getElem?_getD, List.getElem?_eq_getElem h2, Option.getD_some] at this
    simp only [List.getElem_map, Function.comp]
    omega
  clear hws
  have HTK := Lib.hid (fun i (hi : i < ws.length) => sumW_take ws i hi)
  have c1 : decide ((n : Int) < 0) = false := by simp
  have c2 : decide (10 < (n : Int)) = false := decide_eq_false (by omega)
  have c3 : decide (6 < (zs.length : Int)) = false := decide_eq_false (by omega)
  have c4 : decide (6 < zs.length) = false := decide_eq_false (by omega)
  go_enter Try.func6, Try.ntmps6
  go_wp2_with fail
  refine (alive_any _).mono ?_
  rintro e w1 ⟨rfl, hb1⟩
  have HB1 := Lib.hid hb1
  clear hb1
  go_wp2_with fail
  go_loop [5, 31] (fun sv iv => ∃ i : Nat, i ≤ zs.length ∧ iv = .int .i64 i ∧ sv = .int .i64 (sumW (ws.take i) : Nat) ∧ sumW (ws.take i) ≤ i * 1048576 ∧ Hid (∀ j, j < i → 0 ≤ zs.getD j 0 ∧ zs.getD j 0 ≤ 1048576)) (fun _ iv => zs.length - (intOf iv).toNat)
  case atStart => exact ⟨0, Nat.zero_le _, rfl, rfl, Nat.zero_le _, fun j hj => by omega⟩
  case round =>
    obtain ⟨i, hi, rfl, rfl, hsb, hr⟩ := hrel
    by_cases hlt : i < zs.length
    · obtain ⟨b, off, rfl, hbl, hc⟩ := HOP.out i hlt
      have c := (World.cell?_of_block (HB1.out.block b hbl)).trans (hc i hlt)
      clear hc
      by_cases hin : 0 ≤ zs.getD i 0 ∧ zs.getD i 0 ≤ 1048576
      · have HR : Hid (∀ j, j < i + 1 → 0 ≤ zs.getD j 0 ∧ zs.getD j 0 ≤ 1048576) := fun j hj => by
          rcases Nat.lt_or_ge j i with h | h
          · exact hr.out j h
          · rw [show j = i by omega]; exact hin
        have hT := Lib.hid (HTK.out i (by omega))
        have hcast := HWS.out i hlt hin.1
        have hwb : ws.getD i 0 ≤ 1048576 := by omega
        rw [hcast] at c
        have f2 : decide (1048576 < ((ws.getD i 0 : Nat) : Int)) = false := decide_eq_false (by omega)
        clear hin hcast
        generalize ws.getD i 0 = x at *
        generalize hy : sumW (ws.take i) = y at *
        clear hy
        have hyb : y + x ≤ 9223372036854775807 := by omega
        go_wp2_with fail
        go_round
        case rel => exact ⟨i + 1, by omega, by go_num, by rw [hT.out]; go_num, by rw [hT.out]; omega, HR.out⟩
        case measure => simp [intOf]; omega
      · have hor : zs.getD i 0 < 0 ∨ 1048576 < zs.getD i 0 := by omega
        generalize zs.getD i 0 = x at *
        rcases hor with h | h
        · have f1 : decide (x < 0) = true := decide_eq_true h
          go_wp2_with fail
          go_ret
          exact ⟨by simp, HB1.out⟩
        · have f1 : decide (x < 0) = false := decide_eq_false (by omega)
          have f2 : decide (1048576 < x) = true := decide_eq_true h
          go_wp2_with fail
          go_ret
          exact ⟨by simp, HB1.out⟩
    · obtain rfl : i = zs.length := by omega
      have hall : sumW (ws.take zs.length) = sumW ws := by rw [← hwl, List.take_length]
      rw [hall] at hsb ⊢
      have HR := hr
      have hback := HBack.out (fun i hi => (hr.out i hi).1)
      have hwsb : Hid (∀ j, j < zs.length → ws.getD j 0 ≤ 1048576) := fun j hj => by
        have h1 := hr.out j hj
        have h2 := HWS.out j hj h1.1
        omega
      have hsb6 : sumW ws ≤ 6291456 := by omega
      clear hall hsb hr HTK
      by_cases hs0 : sumW ws = 0
      · have e0 : (((sumW ws : Nat) : Int) == 0) = true := by rw [hs0]; rfl
        clear hs0
        generalize sumW ws = S at *
        go_wp2_with fail
        go_ret
        exact ⟨by simp, HB1.out⟩
      · have e0 : (((sumW ws : Nat) : Int) == 0) = false := by rw [beq_eq_false_iff_ne]; omega
        have HOF := Lib.hid (fun v w (hv : RdB w v (tp n 0) → True) => trivial)
        have HOfc := Lib.hid (fun v t w (h1 : RdB w v t) (h2 : Rd w (.slice a zs.length cap) (ws.map (fun n : Nat => (n : Int)))) => of_ok v (.slice a zs.length cap) t ws (by omega) (by omega) w h1 h2)
        rw [hback] at HOfc
        have HBits := Lib.hid (fun x hx w => bits_tp x n (by omega) hx w)
        have HIN := Lib.hid (fun x q (hq : ofF 0 (sumW ws) ws (tp n x) = some q) => ofF_in ws 0 (sumW ws) (tp n x) q hq)
        have HC : Hid (∀ j, j < zs.length → Btn (picked ws n j (2 ^ n)) (ended ws n (2 ^ n)) (sumW ws) (ws.getD j 0 * 2 ^ n)) := fun j hj => by
          have := ofC ws 0 (sumW ws) n rfl (by omega) j (by omega)
          rw [Nat.zero_add] at this
          exact this
        have hN : (2 : Int) ^ n = ((2 ^ n : Nat) : Int) := by simp
        have hN1 : 2 ^ n ≤ 1024 := Nat.pow_le_pow_right (n := 2) (by decide) hn
        have HPB : Hid (∀ j x, picked ws n j x ≤ x) := fun j x => by have := tot_le (k := x) (c := 1) (fun y _ => pk_le j (ofF 0 (sumW ws) ws (tp n y))); unfold picked; omega
        have HEB : Hid (∀ x, ended ws n x ≤ x) := fun x => by have := tot_le (k := x) (c := 1) (fun y _ => en_le (ofF 0 (sumW ws) ws (tp n y))); unfold ended; omega
        have HPS : Hid (∀ j x, picked ws n j (x + 1) = picked ws n j x + pk j (ofF 0 (sumW ws) ws (tp n x))) := fun j x => rfl
        have HES : Hid (∀ x, ended ws n (x + 1) = ended ws n x + en (ofF 0 (sumW ws) ws (tp n x))) := fun x => rfl
        have HE0 : Hid (ended ws n 0 = 0) := rfl
        have b2 : i0.bytes * zs.length ≤ 281474976710656 := by rw [hz2]; omega
        have b3 : zs.length ≤ maxLen := by unfold maxLen; omega
        have hs1 := HB1.out.size
        obtain ⟨qf, hqf⟩ : ∃ qf : Nat → Option (Nat × Nat), qf = fun x => ofF 0 (sumW ws) ws (tp n x) := ⟨_, rfl⟩
        have HQF : Hid (∀ x, ofF 0 (sumW ws) ws (tp n x) = qf x) := fun x => by rw [hqf]
        clear hqf
        generalize 2 ^ n = N at *
        generalize sumW ws = S at *
        go_wp2_with (refine wpList_make_full _ rfl _ _ 36 rfl w1.heap.size 3 i0 (.int .i64 0) 1 Try.underlying36 hinfo hz0 hz1 .i64 .i64 _ _ zs.length rfl rfl rfl rfl b2 b3 (Nat.le_refl _) ?_)
        intro w2 hown hgr
        have hb12 := ((Below.refl w1.heap.size w1).grown hgr (Nat.le_refl _) (fun k hk => by cases hk))
        have HB2 := Lib.hid (HB1.out.trans (hb12.mono HB1.out.size))
        have HO := Lib.hid (OI.made hown)
        clear hown hgr hb12 b2 b3
        generalize hg : w1.heap.size = g at *
        clear hg
        go_wp2_with fail
        go_loopw [9, 52] (fun ev xv wr => ∃ x : Nat, x ≤ N ∧ xv = .int .i64 x ∧ ev = .int .i64 (ended ws n x : Nat) ∧ Below w.heap.size w wr ∧ OI wr g g zs.length (fun j => picked ws n j x)) (fun _ xv _ => N - (intOf xv).toNat)
        case atStart => exact ⟨0, Nat.zero_le _, rfl, by rw [HE0.out]; rfl, HB2.out, HO.out.congr (fun j _ => rfl)⟩
        case round =>
          clear HB2 HO
          obtain ⟨x, hx, rfl, rfl, hbel, ho⟩ := hrel
          have eb := HEB.out x
          by_cases hlt : x < N
          · have BT := Lib.hid (HBits.out x (by omega))
            have HOx := Lib.hid (fun v w h1 h2 => HOfc.out v (tp n x) w h1 h2)
            have HINx := Lib.hid (fun q h => HIN.out x q h)
            have HPSx := Lib.hid (fun j => HPS.out j x)
            have HESx := HES.out x
            have HPBx := Lib.hid (fun j => HPB.out j x)
            have hrdw := Lib.hid (HRD.out.below hbel (Nat.le_refl _))
            rw [HQF.out] at HOx HINx HESx
            have HPSx : Hid (∀ j, picked ws n j (x + 1) = picked ws n j x + pk j (qf x)) := fun j => by rw [← HQF.out]; exact HPSx.out j
            have HBEL := Lib.hid hbel
            have HOO := Lib.hid ho
            clear ho hbel HBits HOfc HIN HPS HES HPB HEB HC HQF
            generalize hqx : qf x = o at *
            generalize hea : ended ws n x = ea at *
            clear hqx hea
            cases o with
            | none =>
              have HE1 : Hid (ended ws n (x + 1) = ea + 1) := HESx
              have HP1 : Hid (∀ j, picked ws n j (x + 1) = picked ws n j x) := fun j => HPSx.out j
              clear HESx HPSx HINx
              simp only [uv] at HOx
              go_wp2_with fail
              refine (BT.out _).mono ?_
              rintro e w3 ⟨hb3, v, rfl, hr3⟩
              have hrd3 := hrdw.out.below hb3 (Nat.le_refl _)
              have H1 := Lib.hid (HOx.out v w3 hr3 hrd3)
              have HB3 := Lib.hid (HBEL.out.trans (hb3.mono HBEL.out.size))
              have HO3 := Lib.hid (HOO.out.below hb3 (Nat.le_refl _))
              clear hb3 hr3 hrd3
              go_wp2_with fail
              refine H1.out.mono ?_
              rintro e w4 ⟨rfl, hb4⟩
              have HB4 := Lib.hid (HB3.out.trans (hb4.mono HB3.out.size))
              have HO4 := Lib.hid (HO3.out.below hb4 (Nat.le_refl _))
              clear hb4
              go_wp2_with fail
              go_roundw
              case rel => exact ⟨x + 1, by omega, by go_num, by rw [HE1.out]; go_num, HB4.out, HO4.out.congr (fun j _ => (HP1.out j).symm)⟩
              case measure => simp [intOf]; omega
            | some q =>
              obtain ⟨d, u⟩ := q
              have hd := (HINx.out _ rfl).2
              have HE1 : Hid (ended ws n (x + 1) = ea) := HESx
              simp only [Nat.zero_add] at hd
              rw [hwl] at hd
              have hpb := HPBx.out d
              have HP1 : Hid (∀ j, picked ws n j (x + 1) = if j = d then picked ws n d x + 1 else picked ws n j x) := fun j => by
                rw [HPSx.out j]
                show picked ws n j x + (if d = j then 1 else 0) = _
                by_cases e : j = d
                · subst e; rw [if_pos rfl, if_pos rfl]
                · rw [if_neg (fun h => e h.symm), if_neg e]; rfl
              clear HESx HPSx HINx HPBx
              simp only [uv] at HOx
              go_wp2_with fail
              refine (BT.out _).mono ?_
              rintro e w3 ⟨hb3, v, rfl, hr3⟩
              have hrd3 := hrdw.out.below hb3 (Nat.le_refl _)
              have H1 := Lib.hid (HOx.out v w3 hr3 hrd3)
              have HB3 := Lib.hid (HBEL.out.trans (hb3.mono HBEL.out.size))
              have HO3 := Lib.hid (HOO.out.below hb3 (Nat.le_refl _))
              clear hb3 hr3 hrd3
              go_wp2_with fail
              refine H1.out.mono ?_
              rintro e w4 ⟨rfl, hb4⟩
              have HB4 := HB3.out.trans (hb4.mono HB3.out.size)
              have ho4 := HO3.out.below hb4 (Nat.le_refl _)
              have gc := ho4.get d hd
              have fr := ho4.frozen d
              have HS := Lib.hid (OI.congr (ho4.set d (picked ws n d x + 1)) (f' := fun j => picked ws n j (x + 1)) (fun j _ => (HP1.out j).symm))
              have hgw : w.heap.size ≤ g := by have := ho4.lt; omega
              have HBS := Lib.hid (HB4.setCell hgw (p := ⟨g, d, none⟩) (.int .i64 ((picked ws n d x + 1 : Nat) : Int)))
              clear hb4 ho4 HB4
              generalize picked ws n d x = y at *
              go_wp2_with fail
              go_roundw
              case rel => exact ⟨x + 1, by omega, by go_num, by rw [HE1.out], HBS.out, HS.out⟩
              case measure => simp [intOf]; omega
          · obtain rfl : x = N := by omega
            have HC1 := HC
            have HBEL := Lib.hid hbel
            have HOO := Lib.hid ho
            have HPBx := Lib.hid (fun j => HPB.out j x)
            clear ho hbel HBits HOfc HIN HPS HES HPB HEB HC HQF HE0 HBack HOF
            obtain ⟨ea, hea⟩ : ∃ ea, ended ws n x = ea := ⟨_, rfl⟩
            rw [hea] at HC1 eb ⊢
            clear hea
            obtain ⟨pf, hpf⟩ : ∃ pf : Nat → Nat, pf = fun j => picked ws n j x := ⟨_, rfl⟩
            have HC2 : Hid (∀ j, j < zs.length → Btn (pf j) ea S (ws.getD j 0 * x)) := fun j hj => by rw [hpf]; exact HC1.out j hj
            have HP2 : Hid (∀ j, pf j ≤ x) := fun j => by rw [hpf]; exact HPBx.out j
            have HO2 : Hid (OI wr g g zs.length pf) := by show OI _ _ _ _ _; rw [hpf]; exact HOO.out
            clear hpf HC1 HPBx HOO
            go_wp2_with fail
            obtain ⟨wo, rfl⟩ : ∃ wo : World, wo = wr := ⟨_, rfl⟩
            go_loopw [91] (fun kv wr => ∃ k : Nat, k ≤ zs.length ∧ kv = .int .i64 k ∧ Below w.heap.size w wr ∧ OI wr g g zs.length pf) (fun kv _ => zs.length - (intOf kv).toNat)
            case atStart => exact ⟨0, Nat.zero_le _, rfl, HBEL.out, HO2.out⟩
            case round =>
              clear HBEL HO2
              obtain ⟨k, hk, rfl, hbel, ho⟩ := hrel
              by_cases hkl : k < zs.length
              · obtain ⟨b, off, rfl, hbl, hc⟩ := HOP.out k hkl
                have c := (World.cell?_of_block (hbel.block b hbl)).trans (hc k hkl)
                rw [HWS.out k hkl (HR.out k hkl).1] at c
                have gc := ho.get k hkl
                obtain ⟨q1, q2⟩ := HC2.out k hkl
                have pb := HP2.out k
                have wb := hwsb.out k hkl
                have m1 : (pf k : Int) * (S : Int) = ((pf k * S : Nat) : Int) := by simp
                have m2 : ((pf k : Int) + (ea : Int)) * (S : Int) = (((pf k + ea) * S : Nat) : Int) := by simp
                have m3 : (ws.getD k 0 : Int) * (x : Int) = ((ws.getD k 0 * x : Nat) : Int) := by simp
                have mb1 : pf k * S ≤ 1024 * 6291456 := Nat.mul_le_mul (by omega) hsb6
                have mb2 : (pf k + ea) * S ≤ 2048 * 6291456 := Nat.mul_le_mul (by omega) hsb6
                have mb3 : ws.getD k 0 * x ≤ 1048576 * 1024 := Nat.mul_le_mul wb hN1
                have hz : ws.getD k 0 = 0 → pf k = 0 := fun h => by
                  rw [h, Nat.zero_mul] at q1
                  rcases Nat.mul_eq_zero.1 (Nat.le_zero.1 q1) with h | h
                  · exact h
                  · exact absurd h hs0
                have HBE := Lib.hid hbel
                have HOE := Lib.hid ho
                clear hc hbel ho
                generalize pf k * S = A at *
                generalize (pf k + ea) * S = B at *
                generalize ws.getD k 0 * x = C at *
                generalize pf k = T at *
                generalize ws.getD k 0 = wk at *
                have d1 : decide ((C : Int) < (A : Int)) = false := decide_eq_false (by omega)
                have d2 : decide ((B : Int) < (C : Int)) = false := decide_eq_false (by omega)
                have d1' : decide (C < A) = false := decide_eq_false (by omega)
                have d2' : decide (B < C) = false := decide_eq_false (by omega)
                by_cases hw0 : wk = 0
                · have ht0 := hz hw0
                  have e6 : ((wk : Int) == 0) = true := by rw [hw0]; rfl
                  have f7 : decide (0 < (T : Int)) = false := decide_eq_false (by omega)
                  have f8 : decide (0 < T) = false := decide_eq_false (by omega)
                  clear hz hw0 ht0
                  go_wp2_with fail
                  go_quiet (fail)
                  go_wp2_with fail
                  go_roundw
                  case rel => exact ⟨k + 1, by omega, by go_num, HBE.out.drewN _, HOE.out⟩
                  case measure => simp [intOf]; omega
                · have e5 : ((wk : Int) == 0) = false := by rw [beq_eq_false_iff_ne]; omega
                  clear hz
                  go_wp2_with fail
                  go_quiet (fail)
                  go_wp2_with fail
                  go_roundw
                  case rel => exact ⟨k + 1, by omega, by go_num, HBE.out.drewN _, HOE.out⟩
                  case measure => simp [intOf]; omega
              · obtain rfl : k = zs.length := by omega
                go_wp2_with fail
                go_ret
                exact ⟨rfl, hbel⟩
set_option maxHeartbeats 1600000 in
theorem walk_skip (v : Value) (zs : List Int) (n : Int) (hn : ¬ (0 ≤ n ∧ n ≤ 10 ∧ zs.length ≤ 6)) (w : World) (h : Rd w v zs) :
    Calls Try.prog 6 #[v, .int .i64 n] w fun e w' => e = .returned (.bool true) ∧ Below w.heap.size w w' := by
  have HN := Lib.hid hn
  obtain ⟨a, cap, rfl, hlc, hcm, -⟩ := h.open
  clear hn h
  go_enter Try.func6, Try.ntmps6
  go_wp2_with fail
  refine (alive_any _).mono ?_
  rintro e w1 ⟨rfl, hb1⟩
  go_wp2_with fail
  all_goals first
    | (go_ret; exact ⟨by simp, hb1⟩)
    | exact absurd (by omega) HN.out
theorem walk (a : Option Addr) (len cap : Nat) (z : List Int) (n : Int) (w : World) (h : IsRow .i64 w a len cap z) (_ : (Lit.int .i64 n).wf = true) :
    Calls Try.prog 6 #[.slice a len cap, .int .i64 n] w fun e w' => e = .returned (.bool true) ∧ Below w.heap.size w w' := by
  by_cases hn : 0 ≤ n ∧ n ≤ 10 ∧ (z.take len).length ≤ 6
  · obtain ⟨n, rfl⟩ : ∃ k : Nat, n = k := ⟨n.toNat, by omega⟩
    exact walk_main _ _ n (by omega) hn.2.2 w h.rd.1
  · exact walk_skip _ _ n hn w h.rd.1
end Go.Proofs.Ytkdidgkanfjfmaa.coinSplit
