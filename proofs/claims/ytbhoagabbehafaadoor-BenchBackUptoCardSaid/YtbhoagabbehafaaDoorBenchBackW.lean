/- The walk of BenchBack. Condition: the listed variables as they are laid; short texts and lists. -/
import Derived.Test.YtbhoagabbehafaaDoorEqC
import Derived.Test.YtbhoagabbehafaaDoorAl
set_option linter.unusedSimpArgs false
set_option linter.unusedVariables false
namespace Go.Proofs.YtbhoagabbehafaaDoor
open Go.RowKit
def natP (p : Int × Int) : Nat × Nat := (p.1.toNat, p.2.toNat)
def intP (p : Nat × Nat) : Int × Int := (p.1, p.2)
theorem adds_text : ∀ l : List (Nat × Nat), ((l.map intP).map addLn).flatten = addsT l
  | [] => rfl
  | (x, d) :: l => by
    have ih := adds_text l
    show addLn (intP (x, d)) ++ ((l.map intP).map addLn).flatten = line wAdd [x, d] ++ 10 :: addsT l
    rw [ih]
    simp [addLn, intP, line, glue, wAdd, num]
theorem ptext_text (r : Nat) (l : List (Nat × Nat)) : ptext r (l.map intP) = textT r l := by
  unfold ptext textT
  rw [adds_text]
  simp [roomLn, line, glue, wRoom, num]
theorem int_nat {zs : List (Int × Int)} (h : ∀ p ∈ zs, fitI p.1 ∧ fitI p.2) : (zs.map natP).map intP = zs ∧ fitsL (zs.map natP) := by
  constructor
  · rw [List.map_map]
    conv => rhs; rw [← List.map_id zs]
    refine List.map_congr_left fun p hp => ?_
    obtain ⟨h1, h2⟩ := h p hp
    unfold fitI at h1 h2
    show ((((p.1.toNat : Nat) : Int)), ((p.2.toNat : Nat) : Int)) = p
    rw [show ((p.1.toNat : Nat) : Int) = p.1 by omega, show ((p.2.toNat : Nat) : Int) = p.2 by omega]
  · intro q hq
    obtain ⟨p, hp, rfl⟩ := List.mem_map.1 hq
    obtain ⟨h1, h2⟩ := h p hp
    unfold fitI at h1 h2
    unfold big natP
    simp only
    omega
theorem parse_ptext {r : Int} {zs : List (Int × Int)} (hr : fitI r) (h : ∀ p ∈ zs, fitI p.1 ∧ fitI p.2) : parse (ptext r zs) = .ok (r.toNat, zs.map natP) := by
  obtain ⟨h1, h2⟩ := int_nat h
  rw [parse_ok]
  unfold fitI at hr
  refine ⟨⟨by unfold big; omega, h2⟩, ?_⟩
  rw [← ptext_text, h1, show ((r.toNat : Nat) : Int) = r by omega]
theorem fits_all {l : List (Nat × Nat)} (h : fitsL l) : ∀ p ∈ l.map intP, fitI p.1 ∧ fitI p.2 := by
  intro q hq
  obtain ⟨p, hp, rfl⟩ := List.mem_map.1 hq
  have := h p hp
  unfold big at this
  unfold intP fitI
  simp only
  omega
theorem ptext_len {r : Int} {zs : List (Int × Int)} (hr : fitI r) (h : ∀ p ∈ zs, fitI p.1 ∧ fitI p.2) (hz : zs.length ≤ 1048577) : (ptext r zs).length < 4294967281 := by
  have h1 : (roomLn r).length ≤ 27 := by have := fit_len hr; unfold roomLn; simp; omega
  have h2 : ∀ zs : List (Int × Int), (∀ p ∈ zs, fitI p.1 ∧ fitI p.2) → ((zs.map addLn).flatten).length ≤ 48 * zs.length := by
    intro zs
    induction zs with
    | nil => intro _; simp
    | cons p l ih =>
      intro h
      have e1 := addLn_len (p := p) (h p (List.mem_cons_self ..)).1 (h p (List.mem_cons_self ..)).2
      have e2 := ih fun q hq => h q (List.mem_cons_of_mem _ hq)
      rw [List.map_cons, List.flatten_cons, List.length_append, List.length_cons]
      omega
  have h3 := h2 zs h
  unfold ptext
  rw [List.length_append]
  omega
theorem own_rdC {w : World} {base : Nat} {v : Value} {l : List (Nat × Nat)} (h : w.ownsRow base 37 2 v l.length (comeC l)) : RdC w v (l.map intP) := by
  obtain ⟨a, cap, rfl, hc⟩ := own2_cells h
  refine ⟨a, cap, by rw [List.length_map], fun hz => ?_⟩
  obtain ⟨g, rfl, hg, hcs⟩ := hc (fun e => hz (by rw [e]; rfl))
  refine ⟨g, 0, rfl, hg, fun i hi => ?_⟩
  have hi' : i < l.length := by simpa using hi
  have := hcs i hi'
  rw [Nat.zero_add]
  rw [List.getD_eq_getElem?_getD, List.getElem?_map, List.getElem?_eq_getElem hi']
  rw [List.getD_eq_getElem?_getD, List.getElem?_eq_getElem hi'] at this
  exact this
theorem RdC.form {w : World} {v : Value} {zs : List (Int × Int)} (h : RdC w v zs) : ∃ a k, v = .slice a zs.length k := by
  obtain ⟨a, cap, rfl, _⟩ := h; exact ⟨a, cap, rfl⟩
set_option maxHeartbeats 1600000 in
set_option maxRecDepth 20000 in
theorem benchBack.walk0 (r : Int) (v : Value) (zs : List (Int × Int)) (t : List UInt8) (w : World) (hT : TW w) (hv : RdC w v zs) (hz : zs.length ≤ 1048576) (ht : t.length ≤ 1048576) :
    Calls Tryd.prog 4 #[.int .i64 r, v, .string ⟨t.toArray⟩] w fun e w' => e = .returned (.bool true) ∧ Below w.heap.size w w' := by
  have HTT := Lib.hid hT
  have HA := Lib.hid (alive_any w hT)
  have HV := Lib.hid hv
  obtain ⟨va, vk, rfl⟩ := hv.form
  -- what the text reads as
  have H2 : Hid (∀ w', Below w.heap.size w w' → Calls Tryd.prog 10 #[.string ⟨t.toArray⟩] w' fun e w2 => Below w'.heap.size w' w2 ∧ ParseP w' w2 e (parse t)) := fun w' h => parse_any t w' (HTT.out.below h (Nat.le_refl _)) (by omega)
  have HC : Hid (∀ w', Calls Tryd.prog 7 #[.string ⟨t.toArray⟩, .string ⟨#[10]⟩] w' fun e w2 => e = .returned (.int .i64 (t.count 10 : Nat)) ∧ w2 = w') := fun w' => count_any t w'
  clear hT hv
  go_enter Tryd.func4, Tryd.ntmps4
  go_wp2_with fail
  refine HA.out.mono ?_
  rintro e w1 ⟨rfl, hb1⟩
  have HB1 := Lib.hid hb1
  have HP1 := Lib.hid (print_any r _ zs w1 (HTT.out.below hb1 (Nat.le_refl _)) (HV.out.below hb1) (by omega))
  clear hb1
  go_wp2_with fail
  refine HP1.out.mono ?_
  rintro e w2 ⟨hp, hb2⟩
  have HB2 := Lib.hid (HB1.out.trans (hb2.mono HB1.out.size))
  clear hb2
  rcases hp with ⟨⟨hr, hf⟩, rfl⟩ | ⟨hn, rfl⟩
  · have HP3 : Hid (Calls Tryd.prog 10 #[.string ⟨(ptext r zs).toArray⟩] w2 fun e w3 => Below w2.heap.size w2 w3 ∧ ∃ a k, e = .returned (.tuple #[.int .i64 r, .slice a zs.length k, .int .i64 0, .int .i64 0]) ∧ RdC w3 (.slice a zs.length k) zs) := by
      refine (parse_any (ptext r zs) w2 (HTT.out.below HB2.out (Nat.le_refl _)) (ptext_len hr hf (by omega))).mono ?_
      rintro e w3 ⟨hb3, hp3⟩
      rw [parse_ptext hr hf] at hp3
      obtain ⟨pv, rfl, hown⟩ := hp3
      have hrd := own_rdC hown
      rw [(int_nat hf).1] at hrd
      obtain ⟨a, k, rfl⟩ := hrd.form
      have hrr : ((r.toNat : Nat) : Int) = r := by unfold fitI at hr; omega
      exact ⟨hb3, a, k, by rw [hrr], hrd⟩
    clear hr hf
    go_wp2_with fail
    refine HP3.out.mono ?_
    rintro e w3 ⟨hb3, pa, pk, rfl, hrd⟩
    have HB3 := Lib.hid (HB2.out.trans (hb3.mono HB2.out.size))
    have HE := Lib.hid (eqC_same _ _ zs w3 hrd (HV.out.below HB3.out) (by omega))
    clear hb3 hrd
    have g0 : (r == r) = true := beq_self_eq_true _
    go_wp2_with fail
    refine HE.out.mono ?_
    rintro e w4 ⟨rfl, hb4⟩
    have HB4 := Lib.hid (HB3.out.trans (hb4.mono HB3.out.size))
    clear hb4
    go_wp2_with fail
    refine (H2.out w4 HB4.out).mono ?_
    rintro e w5 ⟨hb5, hpt⟩
    have HB5 := Lib.hid (HB4.out.trans (hb5.mono HB4.out.size))
    clear hb5
    cases hpp : parse t with
    | error k =>
      rw [hpp] at hpt
      obtain rfl : e = _ := hpt
      have hk := parse_err t k hpp
      have HP2 := Lib.hid (print_any 0 (.slice none 0 0) [] w5 (HTT.out.below HB5.out (Nat.le_refl _)) ⟨none, 0, rfl, fun h => absurd rfl h⟩ (by simp))
      clear hpp
      go_wp2_with fail
      refine HP2.out.mono ?_
      rintro e w6 ⟨hp6, hb6⟩
      have HB6 := Lib.hid (HB5.out.trans (hb6.mono HB5.out.size))
      clear hb6
      rcases hp6 with ⟨-, rfl⟩ | ⟨hn, -⟩
      · have g1 : decide ((k : Int) < 0) = false := decide_eq_false (by omega)
        have g2 : decide (((t.count 10 : Nat) : Int) < (k : Int)) = false := decide_eq_false (by omega)
        have g3 : (((t.count 10 : Nat) : Int) < (k : Int)) = False := eq_false (by omega)
        have g4 : (k ≤ t.count 10) = True := eq_true (by omega)
        obtain ⟨c, hc⟩ : ∃ c, t.count 10 = c := ⟨_, rfl⟩
        rw [hc] at g2 g3 g4 HC
        clear hk hc
        go_wp2_with fail
        refine (HC.out _).mono ?_
        rintro e w7 ⟨rfl, rfl⟩
        go_wp2_with fail
        go_ret
        exact ⟨rfl, HB6.out⟩
      · exact absurd ⟨by decide, fun p hp => by cases hp⟩ hn
    | ok ml =>
      obtain ⟨m, l⟩ := ml
      rw [hpp] at hpt
      obtain ⟨pv, rfl, hown⟩ := hpt
      obtain ⟨⟨hm, hfl⟩, htx⟩ := (parse_ok t m l).1 hpp
      have hll : l.length ≤ 1048577 := by
        have h1 := textT_count m l
        rw [← htx] at h1
        have h2 : t.count 10 ≤ t.length := List.count_le_length
        omega
      have HP2 := Lib.hid (print_any m pv (l.map intP) w5 (HTT.out.below HB5.out (Nat.le_refl _)) (own_rdC hown) (by rw [List.length_map]; exact hll))
      have HTE : Hid (ptext m (l.map intP) = t) := by show _ = _; rw [ptext_text, ← htx]
      have HFF : Hid (fitI m ∧ ∀ p ∈ l.map intP, fitI p.1 ∧ fitI p.2) := ⟨by unfold fitI; unfold big at hm; omega, fits_all hfl⟩
      obtain ⟨pa, pk, rfl⟩ : ∃ a k, pv = .slice a l.length k := by
        obtain ⟨a, k, h⟩ := (own_rdC hown).form
        exact ⟨a, k, by rw [h, List.length_map]⟩
      clear hpp hown hm hfl htx hll
      go_wp2_with fail
      refine HP2.out.mono ?_
      rintro e w6 ⟨hp6, hb6⟩
      have HB6 := Lib.hid (HB5.out.trans (hb6.mono HB5.out.size))
      clear hb6
      rcases hp6 with ⟨-, rfl⟩ | ⟨hn, -⟩
      · rw [HTE.out]
        have g5 : (t == t) = true := beq_self_eq_true _
        go_wp2_with fail
        go_ret
        exact ⟨rfl, HB6.out⟩
      · exact absurd HFF.out hn
  · have HP3 : Hid (Calls Tryd.prog 10 #[.string ⟨#[]⟩] w2 fun e w3 => Below w2.heap.size w2 w3 ∧ e = .returned (.tuple #[.int .i64 0, .slice none 0 0, .int .i64 (0 : Nat), .int .i64 1])) := by
      refine (parse_any [] w2 (HTT.out.below HB2.out (Nat.le_refl _)) (by decide)).mono ?_
      rintro e w3 ⟨hb3, hp3⟩
      exact ⟨hb3, hp3⟩
    clear hn
    go_wp2_with fail
    refine HP3.out.mono ?_
    rintro e w4 ⟨hb3, rfl⟩
    have HB4 := Lib.hid (HB2.out.trans (hb3.mono HB2.out.size))
    clear hb3
    go_wp2_with fail
    refine (H2.out w4 HB4.out).mono ?_
    rintro e w5 ⟨hb5, hpt⟩
    have HB5 := Lib.hid (HB4.out.trans (hb5.mono HB4.out.size))
    clear hb5
    cases hpp : parse t with
    | error k =>
      rw [hpp] at hpt
      obtain rfl : e = _ := hpt
      have hk := parse_err t k hpp
      have HP2 := Lib.hid (print_any 0 (.slice none 0 0) [] w5 (HTT.out.below HB5.out (Nat.le_refl _)) ⟨none, 0, rfl, fun h => absurd rfl h⟩ (by simp))
      clear hpp
      go_wp2_with fail
      refine HP2.out.mono ?_
      rintro e w6 ⟨hp6, hb6⟩
      have HB6 := Lib.hid (HB5.out.trans (hb6.mono HB5.out.size))
      clear hb6
      rcases hp6 with ⟨-, rfl⟩ | ⟨hn, -⟩
      · have g1 : decide ((k : Int) < 0) = false := decide_eq_false (by omega)
        have g2 : decide (((t.count 10 : Nat) : Int) < (k : Int)) = false := decide_eq_false (by omega)
        have g3 : (((t.count 10 : Nat) : Int) < (k : Int)) = False := eq_false (by omega)
        have g4 : (k ≤ t.count 10) = True := eq_true (by omega)
        obtain ⟨c, hc⟩ : ∃ c, t.count 10 = c := ⟨_, rfl⟩
        rw [hc] at g2 g3 g4 HC
        clear hk hc
        go_wp2_with fail
        refine (HC.out _).mono ?_
        rintro e w7 ⟨rfl, rfl⟩
        go_wp2_with fail
        go_ret
        exact ⟨rfl, HB6.out⟩
      · exact absurd ⟨by decide, fun p hp => by cases hp⟩ hn
    | ok ml =>
      obtain ⟨m, l⟩ := ml
      rw [hpp] at hpt
      obtain ⟨pv, rfl, hown⟩ := hpt
      obtain ⟨⟨hm, hfl⟩, htx⟩ := (parse_ok t m l).1 hpp
      have hll : l.length ≤ 1048577 := by
        have h1 := textT_count m l
        rw [← htx] at h1
        have h2 : t.count 10 ≤ t.length := List.count_le_length
        omega
      have HP2 := Lib.hid (print_any m pv (l.map intP) w5 (HTT.out.below HB5.out (Nat.le_refl _)) (own_rdC hown) (by rw [List.length_map]; exact hll))
      have HTE : Hid (ptext m (l.map intP) = t) := by show _ = _; rw [ptext_text, ← htx]
      have HFF : Hid (fitI m ∧ ∀ p ∈ l.map intP, fitI p.1 ∧ fitI p.2) := ⟨by unfold fitI; unfold big at hm; omega, fits_all hfl⟩
      obtain ⟨pa, pk, rfl⟩ : ∃ a k, pv = .slice a l.length k := by
        obtain ⟨a, k, h⟩ := (own_rdC hown).form
        exact ⟨a, k, by rw [h, List.length_map]⟩
      clear hpp hown hm hfl htx hll
      go_wp2_with fail
      refine HP2.out.mono ?_
      rintro e w6 ⟨hp6, hb6⟩
      have HB6 := Lib.hid (HB5.out.trans (hb6.mono HB5.out.size))
      clear hb6
      rcases hp6 with ⟨-, rfl⟩ | ⟨hn, -⟩
      · rw [HTE.out]
        have g5 : (t == t) = true := beq_self_eq_true _
        go_wp2_with fail
        go_ret
        exact ⟨rfl, HB6.out⟩
      · exact absurd HFF.out hn
theorem benchBack.walk (r : Int) (a : Option Addr) (len cap : Nat) (zs : List (Int × Int)) (t : List UInt8) (w : World) (hT : TW w) (_ : (Lit.int .i64 r).wf = true) (hv : RdC w (.slice a len cap) zs) (hz : zs.length ≤ 1048576) (ht : t.length ≤ 1048576) :
    Calls Tryd.prog 4 #[.int .i64 r, .slice a len cap, .string ⟨t.toArray⟩] w fun e w' => e = .returned (.bool true) ∧ Below w.heap.size w w' := benchBack.walk0 r _ zs t w hT hv hz ht
end Go.Proofs.YtbhoagabbehafaaDoor
