/- quant.Add: what it answers. Condition: a summary that is right. -/
import Derived.Test.YthaiopgmncnekaaGreatDoorQuSq
import Derived.Test.YthaiopgmncnekaaGreatDoorQuRight
set_option linter.unusedSimpArgs false
set_option linter.unusedVariables false
set_option maxRecDepth 20000
namespace Go.Proofs.YthaiopgmncnekaaGreatDoor.Qu
open Go.RowKit
def atF (l : List Rk) (x : Int) : Nat := (l.takeWhile fun r => decide (r.N ≤ x)).length
def moreF (l : List Rk) (k : Nat) : Int := if 0 < k ∧ k < l.length then (l.getD k default).Gap + (l.getD k default).More - 1 else 0
def addIn (l : List Rk) (x : Int) : List Rk := insL l (atF l x) ⟨x, 1, moreF l (atF l x)⟩
def addL (p : Int) (l : List Rk) (x : Int) : List Rk := sqz p (addIn l x)
theorem atF_eq : ∀ (l : List Rk) (x : Int) (k : Nat), k ≤ l.length → (∀ j, j < k → (l.getD j default).N ≤ x) → (k = l.length ∨ x < (l.getD k default).N) → atF l x = k
  | [], x, k, h, _, _ => by simp at h; subst h; rfl
  | r :: l, x, 0, _, _, h => by
    have h1 : x < r.N := by
      rcases h with h | h
      · cases h
      · exact h
    unfold atF
    rw [List.takeWhile_cons_of_neg (by simp; omega)]
    rfl
  | r :: l, x, k + 1, hk, h1, h2 => by
    have ih := atF_eq l x k (by simpa using hk) (fun j hj => h1 (j + 1) (by omega)) (by
      rcases h2 with h | h
      · left; simpa using h
      · right; exact h)
    unfold atF at ih ⊢
    rw [List.takeWhile_cons_of_pos (by simpa using h1 0 (by omega))]
    simp [ih]
theorem atF_le (l : List Rk) (x : Int) : atF l x ≤ l.length := by
  unfold atF
  exact (List.takeWhile_prefix _).sublist.length_le
theorem atF_up : ∀ (l : List Rk) (x : Int) (j : Nat), j < atF l x → (l.getD j default).N ≤ x
  | [], x, j, h => by simp [atF] at h
  | r :: l, x, j, h => by
    unfold atF at h
    by_cases hr : r.N ≤ x
    · rw [List.takeWhile_cons_of_pos (by simpa using hr)] at h
      cases j with
      | zero => exact hr
      | succ j => exact atF_up l x j (by unfold atF; simpa using h)
    · rw [List.takeWhile_cons_of_neg (by simpa using hr)] at h
      simp at h
theorem atF_next : ∀ (l : List Rk) (x : Int), atF l x < l.length → x < (l.getD (atF l x) default).N
  | [], x, h => by simp at h
  | r :: l, x, h => by
    by_cases hr : r.N ≤ x
    · have e : atF (r :: l) x = atF l x + 1 := by unfold atF; rw [List.takeWhile_cons_of_pos (by simpa using hr)]; rfl
      rw [e] at h ⊢
      exact atF_next l x (by simpa using h)
    · have e : atF (r :: l) x = 0 := by unfold atF; rw [List.takeWhile_cons_of_neg (by simpa using hr)]; rfl
      rw [e]
      simpa using hr
theorem insL_cnt (l : List Rk) (i : Nat) (r : Rk) : cnt (insL l i r) = cnt l + r.Gap := by
  unfold insL
  have := cnt_app (l.take i) (l.drop i)
  rw [List.take_append_drop] at this
  rw [cnt_app, cnt]
  omega
theorem insL_all {P : Rk → Prop} (l : List Rk) (i : Nat) (r : Rk) (ha : ∀ s ∈ l, P s) (h2 : P r) : ∀ s ∈ insL l i r, P s := by
  unfold insL
  intro s hs
  rcases List.mem_append.1 hs with hs | hs
  · exact ha s (List.mem_of_mem_take hs)
  · rcases List.mem_cons.1 hs with rfl | hs
    · exact h2
    · exact ha s (List.mem_of_mem_drop hs)
set_option maxHeartbeats 1600000 in
set_option maxRecDepth 20000 in
theorem add_full (p x : Int) (a : Option Addr) (n cap base : Nat) (l : List Rk) (w : World) (h : Own w base (.slice a n cap) l) (hn : l.length = n) (hR : RightP p l) (hF : n = 400 ∨ cnt l = 1099511627776) :
    Calls Tryz.prog 13 #[.int .i64 p, .slice a n cap, .int .i64 x] w fun e w' => e = .returned (.tuple #[.slice none 0 0, .int .i64 4]) ∧ Below w.heap.size w w' := by
  have HR := Lib.hid (right_any p a n cap base l w h hn hR)
  have HC : Hid (∀ w1, Below w.heap.size w w1 → Calls Tryz.prog 15 #[.slice a n cap] w1 fun e w' => e = .returned (.int .i64 (cnt l)) ∧ Below w1.heap.size w1 w') := fun w1 hb =>
    count_any a n cap base l w1 (h.below hb (Nat.le_refl _)) hn hR.gap hR.sum
  clear h hn hR
  go_enter Tryz.func13, Tryz.ntmps13
  go_wp2_with fail
  refine HR.out.mono ?_
  rintro e w1 ⟨rfl, hb1⟩
  have HB1 := Lib.hid hb1
  clear hb1 HR
  by_cases h4 : n = 400
  · have t1 : ((n : Int) == 400) = true := by rw [beq_iff_eq]; omega
    clear hF h4
    go_wp2_with fail
    go_ret2
    exact ⟨rfl, HB1.out⟩
  · have t1 : ((n : Int) == 400) = false := by rw [beq_eq_false_iff_ne]; omega
    have hc : cnt l = 1099511627776 := by rcases hF with h | h; omega; exact h
    rw [hc] at HC
    clear hF h4 hc
    go_wp2_with fail
    refine (HC.out w1 HB1.out).mono ?_
    rintro e w2 ⟨rfl, hb2⟩
    have HB2 := Lib.hid (HB1.out.trans (hb2.mono HB1.out.size))
    clear hb2
    go_wp2_with fail
    go_ret2
    exact ⟨rfl, HB2.out⟩
set_option maxHeartbeats 1600000 in
set_option maxRecDepth 20000 in
theorem add_any (p x : Int) (a : Option Addr) (n cap base : Nat) (l : List Rk) (w : World) (h : Own w base (.slice a n cap) l) (hn : l.length = n) (hR : RightP p l) (hF1 : n < 400) (hF2 : cnt l < 1099511627776)
    (hM : 0 ≤ moreF l (atF l x) ∧ moreF l (atF l x) ≤ 1099511627776) :
    Calls Tryz.prog 13 #[.int .i64 p, .slice a n cap, .int .i64 x] w fun e w' => ∃ v', e = .returned (.tuple #[v', .int .i64 0]) ∧ Own w' w.heap.size v' (addL p l x) ∧ Below w.heap.size w w' := by
  have HR := Lib.hid (right_any p a n cap base l w h hn hR)
  have HC : Hid (∀ w1, Below w.heap.size w w1 → Calls Tryz.prog 15 #[.slice a n cap] w1 fun e w' => e = .returned (.int .i64 (cnt l)) ∧ Below w1.heap.size w1 w') := fun w1 hb =>
    count_any a n cap base l w1 (h.below hb (Nat.le_refl _)) hn hR.gap hR.sum
  have HO := Lib.hid h
  have HN := Lib.hid hn
  have HRP := Lib.hid hR
  have HM := Lib.hid hM
  have t1 : ((n : Int) == 400) = false := by rw [beq_eq_false_iff_ne]; omega
  have t2 : (cnt l == 1099511627776) = false := by rw [beq_eq_false_iff_ne]; omega
  have HF2 := Lib.hid hF2
  obtain ⟨C, hC⟩ : ∃ C, cnt l = C := ⟨_, rfl⟩
  rw [hC] at t2 HC
  clear h hn hR hF2 hM hC
  go_enter Tryz.func13, Tryz.ntmps13
  go_wp2_with fail
  refine HR.out.mono ?_
  rintro e w1 ⟨rfl, hb1⟩
  have HB1 := Lib.hid hb1
  clear hb1 HR
  go_wp2_with fail
  refine (HC.out w1 HB1.out).mono ?_
  rintro e w2 ⟨rfl, hb2⟩
  have HB2 := Lib.hid (HB1.out.trans (hb2.mono HB1.out.size))
  clear hb2 HB1 HC
  go_wp2_with fail
  clear t1 t2
  go_loop [8] (fun kv => ∃ k : Nat, k ≤ n ∧ kv = .int .i64 k ∧ Hid (∀ j, j < k → (l.getD j default).N ≤ x)) (fun kv => n - (intOf kv).toNat)
  case atStart => exact ⟨0, Nat.zero_le _, rfl, fun j hj => absurd hj (Nat.not_lt_zero _)⟩
  case round =>
    obtain ⟨k, hk, rfl, HJ⟩ := hrel
    by_cases hgo : k < n ∧ (l.getD k default).N ≤ x
    · obtain ⟨hkn, hx⟩ := hgo
      obtain ⟨g, rfl, -, -, hcell⟩ := (HO.out.below HB2.out (Nat.le_refl _)).at (show 0 < n by omega)
      obtain ⟨c0, -, -⟩ := hcell k hkn
      have HJn : Hid (∀ j, j < k + 1 → (l.getD j default).N ≤ x) := fun j hj => by
        rcases Nat.lt_succ_iff_lt_or_eq.1 hj with h | h
        · exact HJ.out j h
        · rw [h]; exact hx
      have t1 : decide ((l.getD k default).N ≤ x) = true := decide_eq_true hx
      clear hcell
      generalize (l.getD k default).N = N0 at *
      go_wp2_with fail
      go_round
      case rel => exact ⟨k + 1, by omega, by go_num, HJn.out⟩
      case measure => simp [intOf]; omega
    · have HAT : Hid (atF l x = k) := atF_eq l x k (by rw [HN.out]; exact hk) HJ.out (by
        rw [HN.out]
        rcases Nat.eq_or_lt_of_le hk with h | h
        · exact .inl h
        · exact .inr (Int.not_le.1 fun h2 => hgo ⟨h, h2⟩))
      rcases Nat.eq_or_lt_of_le hk with h1 | h1
      · subst h1
        have HMF : Hid (moreF l k = 0) := by show _ = _; unfold moreF; rw [HN.out, if_neg (by omega)]
        obtain ⟨wx, hwx⟩ : ∃ wx, wx = w2 := ⟨_, rfl⟩
        subst hwx
        have HBX := HB2
        clear hgo HJ
        rcases Nat.eq_zero_or_pos k with h0 | h0
        · have hk0 : decide ((0 : Int) < (k : Int)) = false := decide_eq_false (by omega)
          have hk0' : decide (0 < k) = false := decide_eq_false (by omega)
          clear h0
          have HCL := Lib.hid (clone_any a k cap base l wx (HO.out.below HBX.out (Nat.le_refl _)) HN.out (by omega))
          go_wp2_with fail
          refine HCL.out.mono ?_
          rintro e w3 ⟨v3, rfl, ho3, hb3⟩
          obtain ⟨a3, cap3, rfl, -, -, -, hs3⟩ := ho3.open
          rw [HN.out] at ho3 ⊢
          have HB3 : Hid (Below w.heap.size w w3) := HBX.out.trans (hb3.mono HBX.out.size)
          have HX : Hid (wx.heap.size ≤ w3.heap.size) := hb3.size
          have HOB : Hid ((Value.slice a3 k cap3).ownBlock ≠ some w3.heap.size) := by
            show _ ≠ _
            cases a3 with
            | none => exact fun h => by cases h
            | some y =>
              obtain ⟨g, cur, rfl, -, hg, -⟩ := hs3 y rfl
              intro h; injection h with h; exact absurd h (Nat.ne_of_lt hg)
          have HINS := Lib.hid (ins_any a3 k cap3 wx.heap.size k w3.heap.size l ⟨x, 1, 0⟩ (w3.alloc (.cells (rkC ⟨x, 1, 0⟩).toArray 43)) (ho3.below ((Below.refl _ _).alloc (Nat.le_refl _) _) (Nat.le_refl _)) HN.out (by omega) (by omega) HOB.out (heap_alloc_new w3 _) (by have := HX.out; simp; omega))
          have HGR : Hid (∀ j, (Value.slice a3 k cap3).ownBlock = some j → w.heap.size ≤ j) := fun j hj => by
            have := ho3.lt j hj
            have h9 := HBX.out.size
            omega
          clear HCL hs3 hb3 ho3 HOB
          go_wp2_with fail
          refine HINS.out.mono ?_
          rintro e w4 ⟨v4, rfl, ho4, hg4⟩
          have HB4 : Hid (Below w.heap.size w w4) := (HB3.out.alloc HB3.out.size _).grown hg4 (by have := HB3.out.size; simp; omega) HGR.out
          obtain ⟨a4, cap4, rfl, -⟩ := ho4.open
          have HADD : Hid (insL l k ⟨x, 1, 0⟩ = addIn l x) := by show _ = _; unfold addIn; rw [HAT.out, HMF.out]
          have HN4 : Hid ((insL l k ⟨x, 1, 0⟩).length = k + 1) := by show _ = _; rw [insL_len l k _ (by rw [HN.out]; exact hk), HN.out]
          have HM2 := HM.out
          rw [HAT.out, HMF.out] at HM2
          have HSP : Hid (SqP (cnt l + 1) (insL l k ⟨x, 1, 0⟩)) := ⟨insL_all l k _ HRP.out.gap (Int.le_refl 1), insL_all (P := fun r => 0 ≤ r.More ∧ r.More ≤ 1099511627776) l k _ HRP.out.more HM2, insL_cnt l k _⟩
          have HSQ := Lib.hid (sq_any p a4 (k + 1) cap4 wx.heap.size w.heap.size (insL l k ⟨x, 1, 0⟩) w4 (by rw [← HN4.out]; exact ho4) HN4.out HRP.out.lo HRP.out.hi (cnt l + 1) HSP.out (by have := HF2.out; omega) HBX.out.size HB4.out.size)
          rw [HN4.out]
          clear HINS ho4 hg4 HGR HM2
          go_wp2_with fail
          refine HSQ.out.mono ?_
          rintro e w5 ⟨v5, rfl, ho5, hb5⟩
          have HO5 : Hid (Own w5 w.heap.size v5 (addL p l x)) := by
            have h9 := ho5
            rw [HADD.out] at h9
            exact h9.base HBX.out.size
          have HB5 : Hid (Below w.heap.size w w5) := HB4.out.trans hb5
          clear ho5 hb5 HSQ
          go_wp2_with fail
          go_ret2
          exact ⟨_, rfl, HO5.out, HB5.out⟩
        · have hk0 : decide ((0 : Int) < (k : Int)) = true := decide_eq_true (by omega)
          have hk0' : decide (0 < k) = true := decide_eq_true (by omega)
          have HCL := Lib.hid (clone_any a k cap base l wx (HO.out.below HBX.out (Nat.le_refl _)) HN.out (by omega))
          go_wp2_with fail
          refine HCL.out.mono ?_
          rintro e w3 ⟨v3, rfl, ho3, hb3⟩
          obtain ⟨a3, cap3, rfl, -, -, -, hs3⟩ := ho3.open
          rw [HN.out] at ho3 ⊢
          have HB3 : Hid (Below w.heap.size w w3) := HBX.out.trans (hb3.mono HBX.out.size)
          have HX : Hid (wx.heap.size ≤ w3.heap.size) := hb3.size
          have HOB : Hid ((Value.slice a3 k cap3).ownBlock ≠ some w3.heap.size) := by
            show _ ≠ _
            cases a3 with
            | none => exact fun h => by cases h
            | some y =>
              obtain ⟨g, cur, rfl, -, hg, -⟩ := hs3 y rfl
              intro h; injection h with h; exact absurd h (Nat.ne_of_lt hg)
          have HINS := Lib.hid (ins_any a3 k cap3 wx.heap.size k w3.heap.size l ⟨x, 1, 0⟩ (w3.alloc (.cells (rkC ⟨x, 1, 0⟩).toArray 43)) (ho3.below ((Below.refl _ _).alloc (Nat.le_refl _) _) (Nat.le_refl _)) HN.out (by omega) (by omega) HOB.out (heap_alloc_new w3 _) (by have := HX.out; simp; omega))
          have HGR : Hid (∀ j, (Value.slice a3 k cap3).ownBlock = some j → w.heap.size ≤ j) := fun j hj => by
            have := ho3.lt j hj
            have h9 := HBX.out.size
            omega
          clear HCL hs3 hb3 ho3 HOB
          go_wp2_with fail
          refine HINS.out.mono ?_
          rintro e w4 ⟨v4, rfl, ho4, hg4⟩
          have HB4 : Hid (Below w.heap.size w w4) := (HB3.out.alloc HB3.out.size _).grown hg4 (by have := HB3.out.size; simp; omega) HGR.out
          obtain ⟨a4, cap4, rfl, -⟩ := ho4.open
          have HADD : Hid (insL l k ⟨x, 1, 0⟩ = addIn l x) := by show _ = _; unfold addIn; rw [HAT.out, HMF.out]
          have HN4 : Hid ((insL l k ⟨x, 1, 0⟩).length = k + 1) := by show _ = _; rw [insL_len l k _ (by rw [HN.out]; exact hk), HN.out]
          have HM2 := HM.out
          rw [HAT.out, HMF.out] at HM2
          have HSP : Hid (SqP (cnt l + 1) (insL l k ⟨x, 1, 0⟩)) := ⟨insL_all l k _ HRP.out.gap (Int.le_refl 1), insL_all (P := fun r => 0 ≤ r.More ∧ r.More ≤ 1099511627776) l k _ HRP.out.more HM2, insL_cnt l k _⟩
          have HSQ := Lib.hid (sq_any p a4 (k + 1) cap4 wx.heap.size w.heap.size (insL l k ⟨x, 1, 0⟩) w4 (by rw [← HN4.out]; exact ho4) HN4.out HRP.out.lo HRP.out.hi (cnt l + 1) HSP.out (by have := HF2.out; omega) HBX.out.size HB4.out.size)
          rw [HN4.out]
          clear HINS ho4 hg4 HGR HM2
          go_wp2_with fail
          refine HSQ.out.mono ?_
          rintro e w5 ⟨v5, rfl, ho5, hb5⟩
          have HO5 : Hid (Own w5 w.heap.size v5 (addL p l x)) := by
            have h9 := ho5
            rw [HADD.out] at h9
            exact h9.base HBX.out.size
          have HB5 : Hid (Below w.heap.size w w5) := HB4.out.trans hb5
          clear ho5 hb5 HSQ
          go_wp2_with fail
          go_ret2
          exact ⟨_, rfl, HO5.out, HB5.out⟩
      · rcases Nat.eq_zero_or_pos k with h0 | h0
        · have hk0 : decide ((0 : Int) < (k : Int)) = false := decide_eq_false (by omega)
          have hk0' : decide (0 < k) = false := decide_eq_false (by omega)
          have HMF : Hid (moreF l k = 0) := by show _ = _; unfold moreF; rw [if_neg (by omega)]
          obtain ⟨g, rfl, -, -, hcell⟩ := (HO.out.below HB2.out (Nat.le_refl _)).at (show 0 < n by omega)
          obtain ⟨c0, -, -⟩ := hcell k h1
          have t1 : decide ((l.getD k default).N ≤ x) = false := decide_eq_false fun h => hgo ⟨h1, h⟩
          obtain ⟨wx, hwx⟩ : ∃ wx, wx = w2 := ⟨_, rfl⟩
          subst hwx
          have HBX := HB2
          clear hcell hgo HJ h0
          generalize (l.getD k default).N = N0 at *
          have HCL := Lib.hid (clone_any _ n cap base l wx (HO.out.below HBX.out (Nat.le_refl _)) HN.out (by omega))
          go_wp2_with fail
          refine HCL.out.mono ?_
          rintro e w3 ⟨v3, rfl, ho3, hb3⟩
          obtain ⟨a3, cap3, rfl, -, -, -, hs3⟩ := ho3.open
          rw [HN.out] at ho3 ⊢
          have HB3 : Hid (Below w.heap.size w w3) := HBX.out.trans (hb3.mono HBX.out.size)
          have HX : Hid (wx.heap.size ≤ w3.heap.size) := hb3.size
          have HOB : Hid ((Value.slice a3 n cap3).ownBlock ≠ some w3.heap.size) := by
            show _ ≠ _
            cases a3 with
            | none => exact fun h => by cases h
            | some y =>
              obtain ⟨g, cur, rfl, -, hg, -⟩ := hs3 y rfl
              intro h; injection h with h; exact absurd h (Nat.ne_of_lt hg)
          have HINS := Lib.hid (ins_any a3 n cap3 wx.heap.size k w3.heap.size l ⟨x, 1, 0⟩ (w3.alloc (.cells (rkC ⟨x, 1, 0⟩).toArray 43)) (ho3.below ((Below.refl _ _).alloc (Nat.le_refl _) _) (Nat.le_refl _)) HN.out (by omega) (by omega) HOB.out (heap_alloc_new w3 _) (by have := HX.out; simp; omega))
          have HGR : Hid (∀ j, (Value.slice a3 n cap3).ownBlock = some j → w.heap.size ≤ j) := fun j hj => by
            have := ho3.lt j hj
            have h9 := HBX.out.size
            omega
          clear HCL hs3 hb3 ho3 HOB
          go_wp2_with fail
          refine HINS.out.mono ?_
          rintro e w4 ⟨v4, rfl, ho4, hg4⟩
          have HB4 : Hid (Below w.heap.size w w4) := (HB3.out.alloc HB3.out.size _).grown hg4 (by have := HB3.out.size; simp; omega) HGR.out
          obtain ⟨a4, cap4, rfl, -⟩ := ho4.open
          have HADD : Hid (insL l k ⟨x, 1, 0⟩ = addIn l x) := by show _ = _; unfold addIn; rw [HAT.out, HMF.out]
          have HN4 : Hid ((insL l k ⟨x, 1, 0⟩).length = n + 1) := by show _ = _; rw [insL_len l k _ (by rw [HN.out]; exact hk), HN.out]
          have HM2 := HM.out
          rw [HAT.out, HMF.out] at HM2
          have HSP : Hid (SqP (cnt l + 1) (insL l k ⟨x, 1, 0⟩)) := ⟨insL_all l k _ HRP.out.gap (Int.le_refl 1), insL_all (P := fun r => 0 ≤ r.More ∧ r.More ≤ 1099511627776) l k _ HRP.out.more HM2, insL_cnt l k _⟩
          have HSQ := Lib.hid (sq_any p a4 (n + 1) cap4 wx.heap.size w.heap.size (insL l k ⟨x, 1, 0⟩) w4 (by rw [← HN4.out]; exact ho4) HN4.out HRP.out.lo HRP.out.hi (cnt l + 1) HSP.out (by have := HF2.out; omega) HBX.out.size HB4.out.size)
          rw [HN4.out]
          clear HINS ho4 hg4 HGR HM2
          go_wp2_with fail
          refine HSQ.out.mono ?_
          rintro e w5 ⟨v5, rfl, ho5, hb5⟩
          have HO5 : Hid (Own w5 w.heap.size v5 (addL p l x)) := by
            have h9 := ho5
            rw [HADD.out] at h9
            exact h9.base HBX.out.size
          have HB5 : Hid (Below w.heap.size w w5) := HB4.out.trans hb5
          clear ho5 hb5 HSQ
          go_wp2_with fail
          go_ret2
          exact ⟨_, rfl, HO5.out, HB5.out⟩
        · have hk0 : decide ((0 : Int) < (k : Int)) = true := decide_eq_true (by omega)
          have hk0' : decide (0 < k) = true := decide_eq_true (by omega)
          obtain ⟨g, rfl, -, -, hcell⟩ := (HO.out.below HB2.out (Nat.le_refl _)).at (show 0 < n by omega)
          obtain ⟨c0, c1, c2⟩ := hcell k h1
          have t1 : decide ((l.getD k default).N ≤ x) = false := decide_eq_false fun h => hgo ⟨h1, h⟩
          have hm1 := getD_mem l k (by rw [HN.out]; exact h1)
          have b1 := HRP.out.gap _ hm1
          have b2 := HRP.out.more _ hm1
          have b3 := gap_le HRP.out.gap k (by rw [HN.out]; exact h1)
          have b4 := HF2.out
          obtain ⟨G, hG⟩ : ∃ y, (l.getD k default).Gap = y := ⟨_, rfl⟩
          obtain ⟨M, hM⟩ : ∃ y, (l.getD k default).More = y := ⟨_, rfl⟩
          rw [hG] at c1 b1 b3
          rw [hM] at c2 b2
          have HMF : Hid (moreF l k = G + M - 1) := by show _ = _; unfold moreF; rw [HN.out, if_pos ⟨h0, h1⟩, hG, hM]
          obtain ⟨s1, hs1⟩ : ∃ s, G + M = s := ⟨_, rfl⟩
          obtain ⟨s2, hs2⟩ : ∃ s, s1 - 1 = s := ⟨_, rfl⟩
          have x1 : IntKind.i64.wrap (G + M) = s1 := by rw [IntKind.wrap_i64]; omega
          have x2 : IntKind.i64.wrap (s1 - 1) = s2 := by rw [IntKind.wrap_i64]; omega
          have x3 : IntKind.i64.wrap s2 = s2 := by rw [IntKind.wrap_i64]; omega
          rw [hs1, hs2] at HMF
          have hkI : decide ((k : Int) < (n : Int)) = true := decide_eq_true (by omega)
          have p1 : (0 ≤ (k : Int) ∧ (k : Int) < (n : Int)) = True := eq_true ⟨by omega, by omega⟩
          clear hcell hgo HJ hG hM hs1 hs2 b1 b2 b3 b4 hm1
          generalize (l.getD k default).N = N0 at *
          go_wp2_with fail
          go_quiet (fail)
          obtain ⟨wx, hwx⟩ : ∃ wx, w2.drewN nq = wx := ⟨_, rfl⟩
          have HBX : Hid (Below w.heap.size w wx) := by rw [← hwx]; exact HB2.out.drewN nq
          rw [hwx]
          clear hwx c0 c1 c2 x1 x2 x3 p1 t1
          have HCL := Lib.hid (clone_any _ n cap base l wx (HO.out.below HBX.out (Nat.le_refl _)) HN.out (by omega))
          go_wp2_with fail
          refine HCL.out.mono ?_
          rintro e w3 ⟨v3, rfl, ho3, hb3⟩
          obtain ⟨a3, cap3, rfl, -, -, -, hs3⟩ := ho3.open
          rw [HN.out] at ho3 ⊢
          have HB3 : Hid (Below w.heap.size w w3) := HBX.out.trans (hb3.mono HBX.out.size)
          have HX : Hid (wx.heap.size ≤ w3.heap.size) := hb3.size
          have HOB : Hid ((Value.slice a3 n cap3).ownBlock ≠ some w3.heap.size) := by
            show _ ≠ _
            cases a3 with
            | none => exact fun h => by cases h
            | some y =>
              obtain ⟨g, cur, rfl, -, hg, -⟩ := hs3 y rfl
              intro h; injection h with h; exact absurd h (Nat.ne_of_lt hg)
          have HINS := Lib.hid (ins_any a3 n cap3 wx.heap.size k w3.heap.size l ⟨x, 1, s2⟩ (w3.alloc (.cells (rkC ⟨x, 1, s2⟩).toArray 43)) (ho3.below ((Below.refl _ _).alloc (Nat.le_refl _) _) (Nat.le_refl _)) HN.out (by omega) (by omega) HOB.out (heap_alloc_new w3 _) (by have := HX.out; simp; omega))
          have HGR : Hid (∀ j, (Value.slice a3 n cap3).ownBlock = some j → w.heap.size ≤ j) := fun j hj => by
            have := ho3.lt j hj
            have h9 := HBX.out.size
            omega
          clear HCL hs3 hb3 ho3 HOB
          go_wp2_with fail
          refine HINS.out.mono ?_
          rintro e w4 ⟨v4, rfl, ho4, hg4⟩
          have HB4 : Hid (Below w.heap.size w w4) := (HB3.out.alloc HB3.out.size _).grown hg4 (by have := HB3.out.size; simp; omega) HGR.out
          obtain ⟨a4, cap4, rfl, -⟩ := ho4.open
          have HADD : Hid (insL l k ⟨x, 1, s2⟩ = addIn l x) := by show _ = _; unfold addIn; rw [HAT.out, HMF.out]
          have HN4 : Hid ((insL l k ⟨x, 1, s2⟩).length = n + 1) := by show _ = _; rw [insL_len l k _ (by rw [HN.out]; exact hk), HN.out]
          have HM2 := HM.out
          rw [HAT.out, HMF.out] at HM2
          have HSP : Hid (SqP (cnt l + 1) (insL l k ⟨x, 1, s2⟩)) := ⟨insL_all l k _ HRP.out.gap (Int.le_refl 1), insL_all (P := fun r => 0 ≤ r.More ∧ r.More ≤ 1099511627776) l k _ HRP.out.more HM2, insL_cnt l k _⟩
          have HSQ := Lib.hid (sq_any p a4 (n + 1) cap4 wx.heap.size w.heap.size (insL l k ⟨x, 1, s2⟩) w4 (by rw [← HN4.out]; exact ho4) HN4.out HRP.out.lo HRP.out.hi (cnt l + 1) HSP.out (by have := HF2.out; omega) HBX.out.size HB4.out.size)
          rw [HN4.out]
          clear HINS ho4 hg4 HGR HM2
          go_wp2_with fail
          refine HSQ.out.mono ?_
          rintro e w5 ⟨v5, rfl, ho5, hb5⟩
          have HO5 : Hid (Own w5 w.heap.size v5 (addL p l x)) := by
            have h9 := ho5
            rw [HADD.out] at h9
            exact h9.base HBX.out.size
          have HB5 : Hid (Below w.heap.size w w5) := HB4.out.trans hb5
          clear ho5 hb5 HSQ
          go_wp2_with fail
          go_ret2
          exact ⟨_, rfl, HO5.out, HB5.out⟩
end Go.Proofs.YthaiopgmncnekaaGreatDoor.Qu
