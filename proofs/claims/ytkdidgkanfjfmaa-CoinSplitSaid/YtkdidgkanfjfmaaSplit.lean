/- coin.Of over all tapes of one length: the plain law. No program in sight. No condition. -/
import Derived.Test.YtkdidgkanfjfmaaOf
set_option linter.unusedSimpArgs false
set_option linter.unusedVariables false
namespace Go.Proofs.Ytkdidgkanfjfmaa
def pk (j : Nat) : Option (Nat × Nat) → Nat
  | some q => if q.1 = j then 1 else 0
  | none => 0
def en : Option (Nat × Nat) → Nat
  | some _ => 0
  | none => 1
theorem pk_map (j u : Nat) (o : Option (Nat × Nat)) : pk j (o.map fun q => (q.1, q.2 + u)) = pk j o := by cases o <;> rfl
theorem en_map (u : Nat) (o : Option (Nat × Nat)) : en (o.map fun q => (q.1, q.2 + u)) = en o := by cases o <;> rfl
/-- A toss that has begun, and what comes behind it. -/
def hF (d r k s : Nat) (ws : List Nat) (t : List Bool) : Option (Nat × Nat) := match tossF d r t with
  | none => none
  | some (true, u) => some (k, u)
  | some (false, u) => (ofF (k + 1) s ws (t.drop u)).map fun q => (q.1, q.2 + u)
theorem hF_step {ob : Option (Nat × Nat) → Nat} (ho : ∀ u o, ob (o.map fun q => (q.1, q.2 + u)) = ob o) (d r k s : Nat) (ws : List Nat) (b : Bool) (t : List Bool) :
    ob (hF d r k s ws (b :: t)) = if b = decide (d ≤ 2 * r) then (if nxt d r = 0 then ob (ofF (k + 1) s ws t) else ob (hF d (nxt d r) k s ws t)) else (if d ≤ 2 * r then ob (some (k, 1)) else ob (ofF (k + 1) s ws t)) := by
  unfold hF
  rw [tossF]
  by_cases h : b = decide (d ≤ 2 * r)
  · rw [if_pos h, if_pos h]
    by_cases hz : nxt d r = 0
    · rw [if_pos hz, if_pos hz]
      exact ho 1 _
    · rw [if_neg hz, if_neg hz]
      cases ht : tossF d (nxt d r) t with
      | none => rfl
      | some q =>
        obtain ⟨c, u⟩ := q
        cases c
        · show ob ((ofF (k + 1) s ws ((b :: t).drop (u + 1))).map fun q => (q.1, q.2 + (u + 1))) = ob ((ofF (k + 1) s ws (t.drop u)).map fun q => (q.1, q.2 + u))
          rw [ho, ho]; rfl
        · show ob (some (k, u + 1)) = ob (some (k, u))
          exact ho 1 (some (k, u))
  · rw [if_neg h, if_neg h]
    by_cases h1 : d ≤ 2 * r
    · rw [if_pos h1, decide_eq_true h1]
    · rw [if_neg h1, decide_eq_false h1]
      exact ho 1 _
theorem ofF_in : ∀ (ws : List Nat) (k s : Nat) (t : List Bool) (q : Nat × Nat), ofF k s ws t = some q → k ≤ q.1 ∧ q.1 < k + ws.length
  | [], k, s, t, q, h => by cases h
  | w :: ws, k, s, t, q, h => by
    rw [ofF] at h
    cases hb : tossN w s t with
    | none => rw [hb] at h; cases h
    | some p =>
      obtain ⟨c, u⟩ := p
      rw [hb] at h
      cases c
      · simp only [Option.map_eq_some_iff] at h
        obtain ⟨q', h1, rfl⟩ := h
        have := ofF_in ws _ _ _ q' h1
        simp only [List.length_cons]; omega
      · cases h; simp
theorem pk_before (k s : Nat) (ws : List Nat) (t : List Bool) : pk k (ofF (k + 1) s ws t) = 0 := by
  cases h : ofF (k + 1) s ws t with
  | none => rfl
  | some q =>
    have := (ofF_in ws _ _ _ q h).1
    show (if q.1 = k then 1 else 0) = 0
    rw [if_neg (by omega)]
def TO (j k s : Nat) (ws : List Nat) (n : Nat) : Nat := tot (fun x => pk j (ofF k s ws (tp n x))) (2 ^ n)
def EO (k s : Nat) (ws : List Nat) (n : Nat) : Nat := tot (fun x => en (ofF k s ws (tp n x))) (2 ^ n)
def TH (j d r k s : Nat) (ws : List Nat) (n : Nat) : Nat := tot (fun x => pk j (hF d r k s ws (tp n x))) (2 ^ n)
def EH (d r k s : Nat) (ws : List Nat) (n : Nat) : Nat := tot (fun x => en (hF d r k s ws (tp n x))) (2 ^ n)
theorem TO_before (k s : Nat) (ws : List Nat) (n : Nat) : TO k (k + 1) s ws n = 0 := by
  unfold TO
  rw [tot_congr (g := fun _ => 0) (fun x _ => pk_before k s ws _), tot_const, Nat.mul_zero]
/-- One bit more. -/
theorem H_succ {ob : Option (Nat × Nat) → Nat} (ho : ∀ u o, ob (o.map fun q => (q.1, q.2 + u)) = ob o) (d r k s : Nat) (ws : List Nat) (n : Nat) :
    tot (fun x => ob (hF d r k s ws (tp (n + 1) x))) (2 ^ (n + 1)) =
      if d ≤ 2 * r then 2 ^ n * ob (some (k, 1)) + (if nxt d r = 0 then tot (fun x => ob (ofF (k + 1) s ws (tp n x))) (2 ^ n) else tot (fun x => ob (hF d (nxt d r) k s ws (tp n x))) (2 ^ n))
      else (if nxt d r = 0 then tot (fun x => ob (ofF (k + 1) s ws (tp n x))) (2 ^ n) else tot (fun x => ob (hF d (nxt d r) k s ws (tp n x))) (2 ^ n)) + tot (fun x => ob (ofF (k + 1) s ws (tp n x))) (2 ^ n) := by
  rw [tot_tapes (fun t => ob (hF d r k s ws t))]
  simp only [hF_step ho]
  by_cases h : d ≤ 2 * r
  · rw [if_pos h]
    simp only [decide_eq_true h, if_pos h, show (false = true) = False by simp, if_false, if_true, tot_const]
    congr 1
    by_cases hz : nxt d r = 0
    · simp only [if_pos hz]
    · simp only [if_neg hz]
  · rw [if_neg h]
    simp only [decide_eq_false h, if_neg h, show (true = false) = False by simp, if_false, if_true]
    congr 1
    by_cases hz : nxt d r = 0
    · simp only [if_pos hz]
    · simp only [if_neg hz]
/-- What is asked of counts: between, to within those that are at their end. -/
def Btn (A E D X : Nat) : Prop := A * D ≤ X ∧ X ≤ (A + E) * D
theorem Btn.add {A E A' E' D X X' : Nat} (h : Btn A E D X) (h' : Btn A' E' D X') : Btn (A + A') (E + E') D (X + X') := by
  obtain ⟨a, b⟩ := h
  obtain ⟨a', b'⟩ := h'
  refine ⟨by rw [Nat.add_mul]; omega, ?_⟩
  rw [Nat.add_mul] at b b' ⊢
  rw [Nat.add_mul, Nat.add_mul]
  omega
theorem Btn.scale {A E D X : Nat} (h : Btn A E D X) (c : Nat) : Btn A E (D * c) (X * c) :=
  ⟨by rw [← Nat.mul_assoc]; exact Nat.mul_le_mul_right _ h.1, by rw [← Nat.mul_assoc]; exact Nat.mul_le_mul_right _ h.2⟩
theorem Btn.unscale {A E D X c : Nat} (h : Btn A E (D * c) (X * c)) (hc : 0 < c) : Btn A E D X := by
  obtain ⟨a, b⟩ := h
  rw [← Nat.mul_assoc] at a b
  exact ⟨Nat.le_of_mul_le_mul_right a hc, Nat.le_of_mul_le_mul_right b hc⟩
theorem Btn.all (n D : Nat) : Btn (2 ^ n) 0 D (2 ^ n * D) := ⟨Nat.le_refl _, Nat.le_refl _⟩
theorem Btn.none' (E D : Nat) : Btn 0 E D 0 := ⟨by rw [Nat.zero_mul]; exact Nat.le_refl _, Nat.zero_le _⟩
theorem hC (d k s : Nat) (ws : List Nat) (hd : 0 < d) (hs : s = sumW ws) (hs0 : 0 < s)
    (ih : ∀ n i, i < ws.length → Btn (TO (k + 1 + i) (k + 1) s ws n) (EO (k + 1) s ws n) s (ws.getD i 0 * 2 ^ n)) (hle : ∀ i, i < ws.length → ws.getD i 0 ≤ s) :
    ∀ (n r : Nat), 0 < r → r < d → Btn (TH k d r k s ws n) (EH d r k s ws n) d (r * 2 ^ n) ∧
      ∀ i, i < ws.length → Btn (TH (k + 1 + i) d r k s ws n) (EH d r k s ws n) (d * s) ((d - r) * (ws.getD i 0 * 2 ^ n))
  | 0, r, h0, h1 => by
    have e : ∀ t, t = ([] : List Bool) → hF d r k s ws t = none := fun t h => by rw [h]; rfl
    have t0 : ∀ j, TH j d r k s ws 0 = 0 := fun j => by unfold TH; simp only [tp_zero, e [] rfl]; rfl
    have e0 : EH d r k s ws 0 = 1 := by unfold EH; simp only [tp_zero, e [] rfl]; rfl
    rw [e0]
    refine ⟨by rw [t0]; exact ⟨by omega, by simp; omega⟩, fun i hi => by
      rw [t0]
      refine ⟨by omega, ?_⟩
      rw [Nat.zero_add, Nat.one_mul, Nat.pow_zero, Nat.mul_one]
      exact Nat.mul_le_mul (by omega) (hle i hi)⟩
  | n + 1, r, h0, h1 => by
    have po : ∀ j, TH j d r k s ws (n + 1) = _ := fun j => H_succ (ob := pk j) (fun u o => pk_map j u o) d r k s ws n
    have eo : EH d r k s ws (n + 1) = _ := H_succ (ob := en) (fun u o => en_map u o) d r k s ws n
    have hO : ∀ i, i < ws.length → Btn (TO (k + 1 + i) (k + 1) s ws n) (EO (k + 1) s ws n) (d * s) (d * (ws.getD i 0 * 2 ^ n)) := fun i hi => by
      have := (ih n i hi).scale d
      rw [Nat.mul_comm d s, Nat.mul_comm d]; exact this
    have hx : ∀ i, (d - r) * (ws.getD i 0 * 2 ^ (n + 1)) = (2 * (d - r)) * (ws.getD i 0 * 2 ^ n) := fun i => by
      rw [Nat.pow_succ, Nat.mul_comm (2 ^ n) 2, Nat.mul_left_comm (ws.getD i 0), ← Nat.mul_assoc, Nat.mul_comm (d - r) 2]
    have hr2 : r * 2 ^ (n + 1) = 2 * r * 2 ^ n := by rw [Nat.pow_succ, Nat.mul_comm (2 ^ n) 2, ← Nat.mul_assoc, Nat.mul_comm r 2]
    have hpk : ∀ j, pk j (some (k, 1)) = if k = j then 1 else 0 := fun j => rfl
    by_cases h : d ≤ 2 * r
    · simp only [if_pos h] at po eo
      have hnx : nxt d r = 2 * r - d := by unfold nxt; rw [if_pos h]
      by_cases hz : nxt d r = 0
      · simp only [if_pos hz] at po eo
        have hE : EH d r k s ws (n + 1) = 0 + EO (k + 1) s ws n := by rw [eo]; rfl
        have hT : TH k d r k s ws (n + 1) = 2 ^ n + TO k (k + 1) s ws n := by rw [po k, hpk, if_pos rfl, Nat.mul_one]; rfl
        refine ⟨?_, fun i hi => ?_⟩
        · rw [hE, hT, TO_before, hr2, show 2 * r * 2 ^ n = 2 ^ n * d + 0 by rw [show 2 * r = d by omega, Nat.mul_comm]; rfl]
          exact (Btn.all n d).add (Btn.none' _ _)
        · have hT2 : TH (k + 1 + i) d r k s ws (n + 1) = TO (k + 1 + i) (k + 1) s ws n := by rw [po, hpk, if_neg (by omega), Nat.mul_zero, Nat.zero_add]; rfl
          rw [hE, hT2, hx, show 2 * (d - r) = d by omega, Nat.zero_add]
          exact hO i hi
      · simp only [if_neg hz] at po eo
        obtain ⟨i1, i2⟩ := hC d k s ws hd hs hs0 ih hle n (nxt d r) (by omega) (nxt_lt h1)
        have hE : EH d r k s ws (n + 1) = 0 + EH d (nxt d r) k s ws n := by rw [eo]; rfl
        have hT : TH k d r k s ws (n + 1) = 2 ^ n + TH k d (nxt d r) k s ws n := by rw [po k, hpk, if_pos rfl, Nat.mul_one]; rfl
        refine ⟨?_, fun i hi => ?_⟩
        · rw [hE, hT, hr2, show 2 * r * 2 ^ n = 2 ^ n * d + nxt d r * 2 ^ n by rw [Nat.mul_comm _ d, ← Nat.add_mul]; congr 1; omega]
          exact (Btn.all n d).add i1
        · have hT2 : TH (k + 1 + i) d r k s ws (n + 1) = TH (k + 1 + i) d (nxt d r) k s ws n := by rw [po, hpk, if_neg (by omega), Nat.mul_zero, Nat.zero_add]; rfl
          rw [hE, hT2, hx, show 2 * (d - r) = d - nxt d r by omega, Nat.zero_add]
          exact i2 i hi
    · simp only [if_neg h] at po eo
      have hnx : nxt d r = 2 * r := by unfold nxt; rw [if_neg h]
      have hz : ¬ nxt d r = 0 := by omega
      simp only [if_neg hz] at po eo
      obtain ⟨i1, i2⟩ := hC d k s ws hd hs hs0 ih hle n (nxt d r) (by omega) (nxt_lt h1)
      have hE : EH d r k s ws (n + 1) = EH d (nxt d r) k s ws n + EO (k + 1) s ws n := by rw [eo]; rfl
      have hT : ∀ j, TH j d r k s ws (n + 1) = TH j d (nxt d r) k s ws n + TO j (k + 1) s ws n := fun j => by rw [po j]; rfl
      refine ⟨?_, fun i hi => ?_⟩
      · rw [hE, hT, TO_before, hr2, ← hnx, show nxt d r * 2 ^ n = nxt d r * 2 ^ n + 0 from rfl]
        exact i1.add (Btn.none' _ _)
      · rw [hE, hT, hx, show 2 * (d - r) = (d - nxt d r) + d by omega, Nat.add_mul]
        exact (i2 i hi).add (hO i hi)
theorem getD_le_sum : ∀ (ws : List Nat) (i : Nat), ws.getD i 0 ≤ sumW ws
  | [], i => by simp
  | w :: ws, 0 => by simp [sumW]
  | w :: ws, i + 1 => by have := getD_le_sum ws i; simp only [List.getD_cons_succ, sumW]; omega
theorem ofC : ∀ (ws : List Nat) (k s n : Nat), s = sumW ws → 0 < s → ∀ i, i < ws.length → Btn (TO (k + i) k s ws n) (EO k s ws n) s (ws.getD i 0 * 2 ^ n)
  | [], k, s, n, hs, hs0, i, hi => absurd hi (by simp)
  | w :: ws, k, s, n, hs, hs0, i, hi => by
    have hsw : s = w + sumW ws := hs
    by_cases hws : w = s
    · have e : ∀ t, ofF k s (w :: ws) t = some (k, 0) := fun t => by rw [ofF]; unfold tossN; rw [if_pos hws]
      have hE : EO k s (w :: ws) n = 0 := by unfold EO; simp only [e]; rw [show (fun _ : Nat => en (some (k, 0))) = fun _ => 0 from rfl, tot_const, Nat.mul_zero]
      cases i with
      | zero =>
        have hT : TO (k + 0) k s (w :: ws) n = 2 ^ n := by
          unfold TO; simp only [e]
          rw [show (fun _ : Nat => pk (k + 0) (some (k, 0))) = fun _ => 1 by funext x; simp [pk], tot_const, Nat.mul_one]
        rw [hE, hT, List.getD_cons_zero, hws, Nat.mul_comm s]
        exact Btn.all n s
      | succ i =>
        have hT : TO (k + (i + 1)) k s (w :: ws) n = 0 := by
          unfold TO; simp only [e]
          rw [show (fun _ : Nat => pk (k + (i + 1)) (some (k, 0))) = fun _ => 0 by funext x; simp [pk], tot_const, Nat.mul_zero]
        have hz : (w :: ws).getD (i + 1) 0 = 0 := by
          have := getD_le_sum ws i
          rw [List.getD_cons_succ]; omega
        rw [hE, hT, hz, Nat.zero_mul]
        exact Btn.none' _ _
    · by_cases hw0 : w = 0
      · have e : ∀ t, ofF k s (w :: ws) t = (ofF (k + 1) s ws t).map fun q => (q.1, q.2 + 0) := fun t => by
          rw [ofF]; unfold tossN; rw [if_neg hws, if_pos hw0, hw0]; rfl
        have hE : EO k s (w :: ws) n = EO (k + 1) s ws n := by unfold EO; simp only [e, en_map]
        have hT : ∀ j, TO j k s (w :: ws) n = TO j (k + 1) s ws n := fun j => by unfold TO; simp only [e, pk_map]
        cases i with
        | zero =>
          rw [hE, hT, Nat.add_zero, TO_before, List.getD_cons_zero, hw0, Nat.zero_mul]
          exact Btn.none' _ _
        | succ i =>
          have := ofC ws (k + 1) s n (by omega) hs0 i (by simpa using hi)
          rw [hE, hT, List.getD_cons_succ, show k + (i + 1) = k + 1 + i by omega]
          exact this
      · have hs' : 0 < sumW ws := by omega
        have e : ∀ t, ofF k s (w :: ws) t = hF s w k (sumW ws) ws t := fun t => by
          rw [ofF]; unfold tossN hF; rw [if_neg hws, if_neg hw0, show s - w = sumW ws by omega]; rfl
        have hE : EO k s (w :: ws) n = EH s w k (sumW ws) ws n := by unfold EO EH; simp only [e]
        have hT : ∀ j, TO j k s (w :: ws) n = TH j s w k (sumW ws) ws n := fun j => by unfold TO TH; simp only [e]
        have hh := hC s k (sumW ws) ws hs0 rfl hs' (fun n i hi => ofC ws (k + 1) (sumW ws) n rfl hs' i hi) (fun i _ => getD_le_sum ws i) n w (by omega) (by omega)
        cases i with
        | zero =>
          rw [hE, hT, Nat.add_zero, List.getD_cons_zero]
          exact hh.1
        | succ i =>
          have h2 := hh.2 i (by simpa using hi)
          rw [hE, hT, List.getD_cons_succ, show k + (i + 1) = k + 1 + i by omega]
          refine Btn.unscale (c := sumW ws) ?_ hs'
          rw [show s - w = sumW ws by omega, Nat.mul_comm (sumW ws)] at h2
          exact h2
end Go.Proofs.Ytkdidgkanfjfmaa
