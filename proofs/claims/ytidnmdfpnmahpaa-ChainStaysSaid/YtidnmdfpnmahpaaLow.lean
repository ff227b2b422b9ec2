/- chain.low: what it answers. Condition: a row of its own, of small numbers not below 0. -/
import Derived.Test.YtidnmdfpnmahpaaSum
set_option linter.unusedSimpArgs false
set_option linter.unusedVariables false
set_option maxRecDepth 20000
namespace Go.Proofs.Ytidnmdfpnmahpaa
open Go.RowKit
def gcdF : List Nat → Nat → Nat
  | [], g => g
  | x :: r, g => gcdF r (Nat.gcd x g)
def lowN (l : List Nat) : List Nat := if 1 < gcdF l 0 then l.map (· / gcdF l 0) else l
def castN (l : List Nat) : List Int := l.map (fun x : Nat => (x : Int))
theorem castN_get (l : List Nat) (i : Nat) : (castN l).getD i 0 = ((l.getD i 0 : Nat) : Int) := by
  unfold castN
  rw [List.getD_eq_getElem?_getD, List.getElem?_map, List.getD_eq_getElem?_getD]
  cases l[i]? <;> rfl
theorem gcdF_le (B : Nat) : ∀ (l : List Nat) (g : Nat), (∀ x ∈ l, x ≤ B) → g ≤ B → gcdF l g ≤ B
  | [], g, _, h => h
  | x :: r, g, hx, h => gcdF_le B r _ (fun y hy => hx y (List.mem_cons_of_mem _ hy)) (by
      have h1 := hx x List.mem_cons_self
      rcases Nat.eq_zero_or_pos x with h0 | h0
      · rw [h0, Nat.gcd_zero_left]; exact h
      · exact Nat.le_trans (Nat.gcd_le_left g h0) h1)
/-- The first i divided. -/
def divT (l : List Nat) (d i : Nat) : List Nat := (l.take i).map (· / d) ++ l.drop i
theorem divT_len (l : List Nat) (d i : Nat) : (divT l d i).length = l.length := by
  unfold divT; rw [List.length_append, List.length_map, List.length_take, List.length_drop]; omega
theorem divT_get (l : List Nat) (d i : Nat) (h : i < l.length) : (divT l d i).getD i 0 = l.getD i 0 := by
  unfold divT
  rw [List.getD_eq_getElem?_getD, List.getElem?_append_right (by rw [List.length_map, List.length_take]; omega), List.length_map, List.length_take, show i - min i l.length = 0 by omega, List.getElem?_drop, List.getD_eq_getElem?_getD]
  rfl
theorem divT_set (l : List Nat) (d i : Nat) (h : i < l.length) : (divT l d i).set i (l.getD i 0 / d) = divT l d (i + 1) := by
  unfold divT
  have hl : ((l.take i).map (· / d)).length = i := by rw [List.length_map, List.length_take]; omega
  have e1 : l.drop i = l[i] :: l.drop (i + 1) := List.drop_eq_getElem_cons h
  have e2 : l.take (i + 1) = l.take i ++ [l[i]] := by rw [List.take_add_one, List.getElem?_eq_getElem h]; rfl
  have e3 : l.getD i 0 = l[i] := by rw [List.getD_eq_getElem?_getD, List.getElem?_eq_getElem h]; rfl
  rw [List.set_append_right _ _ (by omega), hl, Nat.sub_self, e1, e2, e3, List.map_append, List.append_assoc]
  rfl
theorem castN_set (l : List Nat) (i x : Nat) : (castN l).set i (x : Int) = castN (l.set i x) := by unfold castN; rw [List.map_set]
set_option maxHeartbeats 1600000 in
set_option maxRecDepth 20000 in
theorem low_any (base g n cap : Nat) (l : List Nat) (w : World) (ho : w.ownsRow base 3 1 (.slice (some ⟨g, 0, none⟩) n cap) n ((castN l).map (Value.int .i64))) (hb : ∀ x ∈ l, x ≤ 1000000000000) (hn : n ≤ 1000) :
    Calls Try.prog 21 #[.slice (some ⟨g, 0, none⟩) n cap] w fun e w' => e = .returned (.slice (some ⟨g, 0, none⟩) n cap) ∧ w'.ownsRow base 3 1 (.slice (some ⟨g, 0, none⟩) n cap) n ((castN (lowN l)).map (Value.int .i64)) ∧ Below g w w' := by
  have hl : l.length = n := by have := ho.1; simpa [castN] using this
  have HL := Lib.hid hl
  have HO := Lib.hid ho
  have HX : Hid (∀ i, i < n → l.getD i 0 ≤ 1000000000000) := fun i hi => hb _ (getD_mem l i 0 (by rw [HL.out]; exact hi))
  have HG0 : Hid (gcdF l 0 = gcdF (l.drop 0) 0) := rfl
  have HGD : Hid (∀ i q, i < n → gcdF (l.drop i) q = gcdF (l.drop (i + 1)) (Nat.gcd (l.getD i 0) q)) := fun i q hi => by
    show _ = _
    rw [drop_at l i 0 (by rw [HL.out]; exact hi)]; rfl
  have HGZ : Hid (∀ q, gcdF (l.drop n) q = q) := fun q => by show _ = _; rw [List.drop_of_length_le (by rw [HL.out]; exact Nat.le_refl _)]; rfl
  have HDS : Hid (∀ d i, i < n → (divT l d i).set i (l.getD i 0 / d) = divT l d (i + 1)) := fun d i hi => divT_set l d i (by rw [HL.out]; exact hi)
  have HDG : Hid (∀ d i, i < n → (divT l d i).getD i 0 = l.getD i 0) := fun d i hi => divT_get l d i (by rw [HL.out]; exact hi)
  have HD0 : Hid (∀ d, divT l d 0 = l) := fun d => by show _ = _; simp [divT]
  have HDN : Hid (∀ d, divT l d n = l.map (· / d)) := fun d => by show _ = _; unfold divT; rw [List.take_of_length_le (by rw [HL.out]; exact Nat.le_refl _), List.drop_of_length_le (by rw [HL.out]; exact Nat.le_refl _), List.append_nil]
  have HLW : Hid (lowN l = if 1 < gcdF l 0 then l.map (· / gcdF l 0) else l) := rfl
  clear ho hl hb
  go_enter Try.func21, Try.ntmps21
  go_wp2_with fail
  have HB0 : Hid (Below g w w) := Below.refl _ _
  go_loopw [11, 3] (fun iv gv wr => ∃ i q : Nat, i ≤ n ∧ iv = .int .i64 i ∧ gv = .int .i64 q ∧ q ≤ 1000000000000 ∧ Hid (gcdF l 0 = gcdF (l.drop i) q) ∧ Hid (wr.ownsRow base 3 1 (.slice (some ⟨g, 0, none⟩) n cap) n ((castN l).map (Value.int .i64))) ∧ Hid (Below g w wr)) (fun iv _ _ => n - (intOf iv).toNat)
  case atStart => exact ⟨0, 0, Nat.zero_le _, rfl, rfl, by omega, HG0.out, HO.out, HB0.out⟩
  case round =>
    clear HG0 HO HB0
    obtain ⟨i, q, hi, rfl, rfl, hq, HG, HO, HB⟩ := hrel
    by_cases hil : i < n
    · have hiI : (i : Int) < (n : Int) := by omega
      have cx := own_get HO.out i hil
      rw [castN_get] at cx
      have hx := HX.out i hil
      have HGi := Lib.hid (HG.out.trans (HGD.out i q hil))
      generalize l.getD i 0 = x at *
      go_wp2_with fail
      go_loopw [6, 7] (fun av bv wr => ∃ a b : Nat, av = .int .i64 a ∧ bv = .int .i64 b ∧ a ≤ 1000000000000 ∧ b ≤ 1000000000000 ∧ Hid (Nat.gcd x q = Nat.gcd a b) ∧ Hid (wr.ownsRow base 3 1 (.slice (some ⟨g, 0, none⟩) n cap) n ((castN l).map (Value.int .i64))) ∧ Hid (Below g w wr)) (fun _ bv _ => (intOf bv).toNat)
      case atStart => exact ⟨x, q, rfl, rfl, hx, hq, rfl, HO.out, HB.out⟩
      case round =>
        clear HO HB cx
        obtain ⟨a, b, rfl, rfl, ha, hb, HE, HO, HB⟩ := hrel
        by_cases hb0 : b = 0
        · have d1 : ((b : Int) == 0) = true := by rw [beq_iff_eq]; omega
          have HEa : Hid (gcdF l 0 = gcdF (l.drop (i + 1)) a) := by show _ = _; rw [HGi.out, HE.out, hb0, Nat.gcd_zero_right]
          clear hb0
          go_wp2_with fail
          exact ⟨⟨i + 1, a, by omega, by go_num, rfl, ha, HEa.out, HO.out, HB.out⟩, by simp [intOf]; omega⟩
        · have d1 : ((b : Int) == 0) = false := by rw [beq_eq_false_iff_ne]; omega
          have hb1 : 1 ≤ b := by omega
          have hm : a % b < b := Nat.mod_lt _ (by omega)
          have HEn : Hid (Nat.gcd x q = Nat.gcd b (a % b)) := by show _ = _; rw [HE.out, Nat.gcd_comm, Nat.gcd_rec, Nat.gcd_comm]
          have hmod : (a : Int) % (b : Int) = ((a % b : Nat) : Int) := rfl
          generalize a % b = r at *
          clear hb0
          have htm : Int.tmod (a : Int) (b : Int) = (r : Int) := by rw [Int.tmod_eq_emod_of_nonneg (by omega)]; exact hmod
          have hwr : IntKind.i64.wrap (r : Int) = (r : Int) := by rw [IntKind.wrap_i64]; omega
          go_wp2_with fail
          go_quiet (fail)
          go_wp2_with fail
          go_roundw
          case rel => exact ⟨b, r, rfl, rfl, hb, by omega, HEn.out, HO.out, HB.out.drewN _⟩
          case measure => simp [intOf]; omega
    · obtain rfl : i = n := by omega
      have hge : gcdF l 0 = q := HG.out.trans (HGZ.out q)
      rw [hge] at HLW
      clear hge HG HGD HGZ
      by_cases hq1 : 1 < q
      · have d2 : decide (1 < (q : Int)) = true := decide_eq_true (by omega)
        have d2' : decide (1 < q) = true := decide_eq_true (by omega)
        have HLY : Hid (lowN l = l.map (· / q)) := by show _ = _; rw [HLW.out, if_pos hq1]
        have hq0 : ((q : Int) == 0) = false := by rw [beq_eq_false_iff_ne]; omega
        have hq2 : 2 ≤ q := by omega
        have HOd : Hid (wr.ownsRow base 3 1 (.slice (some ⟨g, 0, none⟩) i cap) i ((castN (divT l q 0)).map (Value.int .i64))) := by show World.ownsRow _ _ _ _ _ _ _; rw [HD0.out]; exact HO.out
        clear hq1
        go_wp2_with fail
        go_loopw [29] (fun jv wr => ∃ j : Nat, j ≤ i ∧ jv = .int .i64 j ∧ Hid (wr.ownsRow base 3 1 (.slice (some ⟨g, 0, none⟩) i cap) i ((castN (divT l q j)).map (Value.int .i64))) ∧ Hid (Below g w wr)) (fun jv _ => i - (intOf jv).toNat)
        case atStart => exact ⟨0, Nat.zero_le _, rfl, HOd.out, HB.out⟩
        case round =>
          clear HOd HB HO
          obtain ⟨j, hj, rfl, HO, HB⟩ := hrel
          by_cases hjl : j < i
          · have hjI : (j : Int) < (i : Int) := by omega
            have cx := own_get HO.out j hjl
            rw [castN_get, HDG.out q j hjl] at cx
            have fx := HO.out.frozenAt j
            have hx := HX.out j hjl
            have hon := own_set HO.out j ((l.getD j 0 / q : Nat) : Int)
            rw [castN_set, HDS.out q j hjl] at hon
            have HOn := Lib.hid hon
            have HBn := Lib.hid (HB.out.setCell (p := ⟨g, j, none⟩) (Nat.le_refl _) (.int .i64 ((l.getD j 0 / q : Nat) : Int)))
            have hqx : l.getD j 0 / q ≤ l.getD j 0 := Nat.div_le_self _ _
            have hdv : ((l.getD j 0 : Nat) : Int) / (q : Int) = ((l.getD j 0 / q : Nat) : Int) := rfl
            obtain ⟨y, hy⟩ : ∃ y, l.getD j 0 / q = y := ⟨_, rfl⟩
            rw [hy] at HOn HBn hdv hqx
            clear hon hy
            generalize l.getD j 0 = x at *
            go_wp2_with fail
            go_roundw
            case rel => exact ⟨j + 1, by omega, by go_num, HOn.out, HBn.out⟩
            case measure => simp [intOf]; omega
          · obtain rfl : j = i := by omega
            go_wp2_with fail
            go_ret
            exact ⟨rfl, by rw [HLY.out, ← HDN.out]; exact HO.out, HB.out⟩
      · have d2 : decide (1 < (q : Int)) = false := decide_eq_false (by omega)
        have d2' : decide (1 < q) = false := decide_eq_false (by omega)
        have HLN : Hid (lowN l = l) := by show _ = _; rw [HLW.out, if_neg hq1]
        clear hq1
        go_wp2_with fail
        go_ret
        exact ⟨rfl, by rw [HLN.out]; exact HO.out, HB.out⟩
end Go.Proofs.Ytidnmdfpnmahpaa
