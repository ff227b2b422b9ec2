/- bench.numbers: what it answers. Condition: the listed variables as they are laid. -/
import Derived.Test.YthaiopgmncnekaaGreatDoorStr
import Derived.Test.YthaiopgmncnekaaGreatDoorAdd
import Derived.Lib.Hide
set_option linter.unusedSimpArgs false
set_option linter.unusedVariables false
set_option maxRecDepth 20000
namespace Go.Proofs.YthaiopgmncnekaaGreatDoor
open Go.RowKit
theorem fits_any (n : Int) (w : World) : Calls Tryz.prog 43 #[.int .i64 n] w fun e w' => e = .returned (.bool (decide (0 ≤ n ∧ n ≤ 1099511627776))) ∧ w' = w := by
  by_cases h1 : 0 ≤ n <;> by_cases h2 : n ≤ 1099511627776
  · rw [decide_eq_true (show 0 ≤ n ∧ n ≤ 1099511627776 from ⟨h1, h2⟩)]
    have q1 : decide (n < 0) = false := decide_eq_false (by omega)
    have q2 : decide (1099511627776 < n) = false := decide_eq_false (by omega)
    go_enter Tryz.func43, Tryz.ntmps43
    go_wp2_with fail
    go_ret
    exact ⟨rfl, rfl⟩
  · rw [decide_eq_false (show ¬ (0 ≤ n ∧ n ≤ 1099511627776) from fun h => h2 h.2)]
    have q1 : decide (n < 0) = false := decide_eq_false (by omega)
    have q2 : decide (1099511627776 < n) = true := decide_eq_true (by omega)
    go_enter Tryz.func43, Tryz.ntmps43
    go_wp2_with fail
    go_ret
    exact ⟨rfl, rfl⟩
  · rw [decide_eq_false (show ¬ (0 ≤ n ∧ n ≤ 1099511627776) from fun h => h1 h.1)]
    have q1 : decide (n < 0) = true := decide_eq_true (by omega)
    go_enter Tryz.func43, Tryz.ntmps43
    go_wp2_with fail
    go_ret
    exact ⟨rfl, rfl⟩
  · rw [decide_eq_false (show ¬ (0 ≤ n ∧ n ≤ 1099511627776) from fun h => h1 h.1)]
    have q1 : decide (n < 0) = true := decide_eq_true (by omega)
    go_enter Tryz.func43, Tryz.ntmps43
    go_wp2_with fail
    go_ret
    exact ⟨rfl, rfl⟩
theorem numOf_ok {s : List UInt8} {v : Int} (h : Lib.atoiAll s = .ok v) (h1 : 0 ≤ v ∧ v ≤ 1099511627776) (h2 : Lib.itoa v = s) : numOf s = some v.toNat := by
  unfold numOf; rw [h]; simp only; rw [if_pos ⟨h1.1, h1.2, h2⟩]
theorem numOf_no1 {s : List UInt8} (h : ∀ u, Lib.atoiAll s ≠ .ok u) : numOf s = none := by
  unfold numOf
  split
  · rename_i n hn; exact absurd hn (h n)
  · rfl
theorem numOf_no2 {s : List UInt8} {v : Int} (h : Lib.atoiAll s = .ok v) (h1 : ¬ (0 ≤ v ∧ v ≤ 1099511627776)) : numOf s = none := by
  unfold numOf; rw [h]; simp only; rw [if_neg (fun k => h1 ⟨k.1, k.2.1⟩)]
theorem numOf_no3 {s : List UInt8} {v : Int} (h : Lib.atoiAll s = .ok v) (h1 : Lib.itoa v ≠ s) : numOf s = none := by
  unfold numOf; rw [h]; simp only; rw [if_neg (fun k => h1 k.2.2)]
theorem glue_len (c : UInt8) : ∀ (ws : List (List UInt8)), ∀ x ∈ ws, x.length ≤ (glue c ws).length
  | [], x, h => by cases h
  | w :: ws, x, h => by
    show _ ≤ (w ++ _).length
    rw [List.length_append]
    rcases List.mem_cons.1 h with rfl | h
    · omega
    · have : (c :: x).length ≤ ((ws.map (c :: ·)).flatten).length := by
        obtain ⟨a, b, rfl⟩ := List.append_of_mem h
        simp
        omega
      simp at this ⊢
      omega
/-- What numbers answers. -/
def NumsP (w w' : World) (e : Ending) : Option (List Nat) → Prop
  | some ns => ∃ v, e = .returned (.tuple #[v, .bool true]) ∧ w'.ownsRow w.heap.size 3 1 v ns.length ((ns.map Int.ofNat).map (Value.int .i64))
  | none => e = .returned (.tuple #[.slice none 0 0, .bool false])
set_option maxHeartbeats 800000 in
set_option maxRecDepth 20000 in
theorem nums_any (l word : List UInt8) (many : Nat) (w : World) (hT : TW w) (hl : l.length < 4294967281) (hm1 : 1 ≤ many) (hm : many ≤ 2) :
    Calls Tryz.prog 30 #[.string ⟨l.toArray⟩, .string ⟨word.toArray⟩, .int .i64 many] w fun e w' => Below w.heap.size w w' ∧ NumsP w w' e (nums l word many) := by
  obtain ⟨i3, hi3, hz0, hz1, hz2⟩ := info_parts Tryz.info3
  have HSP := Lib.hid (split_any l w hT hl)
  obtain ⟨-, hwl, -⟩ := words_glue 32 _ l rfl
  cases hws : words 32 (l.count 32) l with
  | nil => rw [hws] at hwl; simp at hwl
  | cons w0 ws =>
  rw [hws] at HSP hwl
  have hcm : l.count 32 ≤ l.length := List.count_le_length
  have HGL : Hid (∀ x ∈ ws, x.length ≤ l.length) := fun x hx => by
    have := glue_len 32 (w0 :: ws) x (List.mem_cons_of_mem _ hx)
    rwa [← hws, (words_glue 32 _ l rfl).1] at this
  have hNN : nums l word many = if ws.length = many ∧ w0 = word then numsOf ws else none := by unfold nums; rw [hws]
  rw [hNN]
  clear hNN
  obtain ⟨m, hm9⟩ : ∃ m, l.count 32 = m := ⟨_, rfl⟩
  rw [hm9] at hwl HSP hcm
  have HN : Hid (∀ k : Nat, ((w0 :: ws).map str).toArray[k]? = ((w0 :: ws)[k]?).map str) := fun k => by rw [List.getElem?_toArray, List.getElem?_map]
  have HLen : Hid (ws.length = m) := by show _ = _; simpa using hwl
  clear hwl
  obtain ⟨L, hL⟩ : ∃ L, ((w0 :: ws).map str).toArray = L := ⟨_, rfl⟩
  rw [hL] at HSP HN
  clear hL
  have HW0 : Hid ((w.alloc (.cells L 9)).cell? ⟨w.heap.size, 0, none⟩ = some (str w0)) := by
    show _ = _
    rw [cell_of_row _ _ _ _ _ _ (heap_alloc_new w _)]
    exact HN.out 0
  have HWK : Hid (∀ k, k < m → (w.alloc (.cells L 9)).cell? ⟨w.heap.size, 1 + k, none⟩ = some (str (ws.getD k []))) := fun k hk => by
    rw [cell_of_row _ _ _ _ _ _ (heap_alloc_new w _)]
    have := HN.out (k + 1)
    rw [Nat.add_comm k 1] at this
    refine this.trans ?_
    have hlt : k < ws.length := by rw [HLen.out]; exact hk
    rw [show 1 + k = k + 1 by omega, List.getElem?_cons_succ]
    simp [List.getD_eq_getElem?_getD, List.getElem?_eq_getElem hlt]
  have wm : IntKind.i64.wrap ((many : Int) + 1) = (many : Int) + 1 := by rw [IntKind.wrap_i64]; omega
  have hT1 : TW (w.alloc (.cells L 9)) := hT.below ((Below.refl w.heap.size w).alloc (Nat.le_refl _) _) (Nat.le_refl _)
  have HB1 : Hid (Below w.heap.size w (w.alloc (.cells L 9))) := (Below.refl w.heap.size w).alloc (Nat.le_refl _) _
  have HTT := Lib.hid hT1
  have hz : (w.alloc (.cells L 9)).heap.size = w.heap.size + 1 := by simp
  clear hT hT1 HN
  obtain ⟨w1, hw1⟩ : ∃ w1, w.alloc (.cells L 9) = w1 := ⟨_, rfl⟩
  rw [hw1] at HSP HW0 HWK HTT HB1 hz
  clear hw1
  by_cases hmm : m = many
  · subst hmm
    have q1 : (((m + 1 : Nat) : Int) == (m : Int) + 1) = true := by rw [beq_iff_eq]; omega
    by_cases hww : w0 = word
    · subst hww
      rw [if_pos ⟨HLen.out, rfl⟩]
      have q2 : (w0 == w0) = true := beq_self_eq_true _
      have q3 : (m = 0) = False := eq_false (by omega)
      have h0 := HW0.out
      unfold str at h0
      clear HW0
      have HTL := numsOf ws
      go_enter Tryz.func30, Tryz.ntmps30
      go_wp2_with fail
      refine HSP.out.mono ?_
      rintro e w2 ⟨rfl, rfl⟩
      clear HTL
      go_wp2_with fail
      clear h0
      go_loopw [9, 31] (fun ov kv wr => ∃ (k : Nat) (ns : List Nat), k ≤ m ∧ kv = .int .i64 k ∧ Hid (ns.length = k) ∧ Hid (wr.ownsRow (w.heap.size + 1) 3 1 ov k ((ns.map Int.ofNat).map (Value.int .i64))) ∧ Hid (numsOf ws = (numsOf (ws.drop k)).map (ns ++ ·)) ∧ Hid (Below w2.heap.size w2 wr)) (fun _ kv _ => m - (intOf kv).toNat)
      case atStart => exact ⟨0, [], Nat.zero_le _, rfl, rfl, World.ownsRow_nil _ _ _ _, by show _ = _; simp, Below.refl _ _⟩
      case round =>
        obtain ⟨k, ns, hk, rfl, HNL, HO, HQ, HBR⟩ := hrel
        by_cases hlt : k < m
        · have hlt2 : (k : Int) < (m : Int) := by omega
          have hkw : k < ws.length := by rw [HLen.out]; exact hlt
          obtain ⟨s, hs⟩ : ∃ s, ws.getD k [] = s := ⟨_, rfl⟩
          have hd : ws.drop k = s :: ws.drop (k + 1) := by
            rw [← hs, List.drop_eq_getElem_cons hkw, List.getD_eq_getElem?_getD, List.getElem?_eq_getElem hkw]; rfl
          rw [hd] at HQ
          have HQ := Lib.hid HQ.out
          have hsl : s.length ≤ 4294967281 := Nat.le_trans (HGL.out s (hs ▸ by rw [List.getD_eq_getElem?_getD, List.getElem?_eq_getElem hkw]; exact List.getElem_mem hkw)) (by omega)
          have c1 : wr.cell? ⟨w.heap.size, 1 + k, none⟩ = some (.string ⟨s.toArray⟩) := by
            rw [World.cell?_of_block (HBR.out.block _ (by show w.heap.size < _; omega))]
            exact (HWK.out k hlt).trans (by rw [hs]; rfl)
          have hT := HTT.out.below HBR.out (Nat.le_refl _)
          have HAT := Lib.hid (atoi_any s wr hT hsl)
          have HTR := Lib.hid hT
          clear hd hs hT hkw
          go_wp2_with fail
          refine HAT.out.mono ?_
          rintro e w3 ⟨⟨v, er, rfl, her⟩, hb3⟩
          have HB3 := Lib.hid hb3
          have HO3 : Hid (w3.ownsRow (w.heap.size + 1) 3 1 u9 k ((ns.map Int.ofNat).map (Value.int .i64))) := own_below HO.out hb3 (Nat.le_refl _)
          have HBB : Hid (Below w2.heap.size w2 w3) := HBR.out.trans (hb3.mono HBR.out.size)
          have HE : Hid (Below w.heap.size w w3) := HB1.out.trans (HBB.out.mono (by omega))
          have HT3 := Lib.hid (HTR.out.below hb3 (Nat.le_refl _))
          clear hb3 c1
          rcases her with ⟨hv, rfl⟩ | ⟨hv, tp, pp, rfl⟩
          · by_cases hf : 0 ≤ v ∧ v ≤ 1099511627776
            · have HIT := Lib.hid (itoa_any v w3 HT3.out (by omega))
              by_cases hit : Lib.itoa v = s
              · have HNK : Hid (numsOf ws = (numsOf (ws.drop (k + 1))).map ((ns ++ [v.toNat]) ++ ·)) := by
                  show _ = _
                  rw [HQ.out]
                  simp only [numsOf, numOf_ok hv hf hit]
                  cases numsOf (ws.drop (k + 1)) with
                  | none => rfl
                  | some r => simp
                have q5 : (Lib.itoa v == s) = true := by rw [beq_iff_eq]; exact hit
                have HVN : Hid (v = ((v.toNat : Nat) : Int)) := by show v = _; omega
                have HFI : Hid (∀ w, Calls Tryz.prog 43 #[.int .i64 v] w fun e w' => e = .returned (.bool true) ∧ w' = w) := fun w => by have := fits_any v w; rwa [decide_eq_true hf] at this
                clear hv hf
                subst hit
                have q5 : (Lib.itoa v == Lib.itoa v) = true := beq_self_eq_true _
                go_wp2_with fail
                refine (HFI.out _).mono ?_
                rintro e w4 ⟨rfl, rfl⟩
                go_wp2_with fail
                refine HIT.out.mono ?_
                rintro e w5 ⟨rfl, hb5⟩
                have HO5 : Hid (w5.ownsRow (w.heap.size + 1) 3 1 u9 k ((ns.map Int.ofNat).map (Value.int .i64))) := own_below HO3.out hb5 (Nat.le_refl _)
                have HB5 : Hid (Below w2.heap.size w2 w5) := HBB.out.trans (hb5.mono HBB.out.size)
                have hs5 : w.heap.size + 1 ≤ w5.heap.size := by have := HB5.out.size; omega
                have HK : Hid (k + 1 ≤ 17592186044416) := by show _ ≤ _; omega
                clear hb5
                go_wp2_with (at_builtin; go_must (refine push rfl _ _ 22 rfl (w.heap.size + 1) 3 i3 (.int .i64 0) 8 Tryz.underlying22 hi3 hz0 hz1 hz2 rfl _ k ((ns.map Int.ofNat).map (Value.int .i64)) rfl HO5.out (.int .i64 v) w5.heap.size rfl (by simp) rfl (by decide) HK.out hs5 ?_))
                intro v3 w6 hown3 hgr3
                have hb6 := grown_below hgr3 HO5.out (Below.refl _ _) (Nat.le_refl _) hs5
                have HO6 := Lib.hid hown3
                have HB6 : Hid (Below w2.heap.size w2 w6) := HB5.out.trans (hb6.mono (by omega))
                clear hown3 hgr3 hb6
                go_wp2_with fail
                go_roundw
                case rel =>
                  refine ⟨k + 1, ns ++ [v.toNat], by omega, by go_num, ?_, ?_, HNK.out, HB6.out⟩
                  · show _ = _
                    rw [List.length_append, HNL.out]; rfl
                  · have := HO6.out
                    show World.ownsRow _ _ _ _ _ _ _
                    rw [List.map_append, List.map_append]
                    rw [show [v.toNat].map Int.ofNat = [v] by show [((v.toNat : Nat) : Int)] = _; rw [← HVN.out], List.map_map]
                    exact this
                case measure => simp [intOf]; omega
              · have HNO : Hid (numsOf ws = none) := by show _ = _; rw [HQ.out]; simp only [numsOf, numOf_no3 hv hit]; rfl
                have q5 : (Lib.itoa v == s) = false := by rw [beq_eq_false_iff_ne]; exact hit
                have HFI : Hid (∀ w, Calls Tryz.prog 43 #[.int .i64 v] w fun e w' => e = .returned (.bool true) ∧ w' = w) := fun w => by have := fits_any v w; rwa [decide_eq_true hf] at this
                clear hv hf hit
                go_wp2_with fail
                refine (HFI.out _).mono ?_
                rintro e w4 ⟨rfl, rfl⟩
                go_wp2_with fail
                refine HIT.out.mono ?_
                rintro e w5 ⟨rfl, hb5⟩
                have HE5 := Lib.hid (HE.out.trans (hb5.mono HE.out.size))
                clear hb5
                go_wp2_with fail
                go_ret2
                rw [HNO.out]
                exact ⟨HE5.out, rfl⟩
            · have HNO : Hid (numsOf ws = none) := by show _ = _; rw [HQ.out]; simp only [numsOf, numOf_no2 hv hf]; rfl
              have HFI : Hid (∀ w, Calls Tryz.prog 43 #[.int .i64 v] w fun e w' => e = .returned (.bool false) ∧ w' = w) := fun w => by have := fits_any v w; rwa [decide_eq_false hf] at this
              clear hv hf
              go_wp2_with fail
              refine (HFI.out _).mono ?_
              rintro e w4 ⟨rfl, rfl⟩
              go_wp2_with fail
              go_ret2
              rw [HNO.out]
              exact ⟨HE.out, rfl⟩
          · have HNO : Hid (numsOf ws = none) := by show _ = _; rw [HQ.out]; simp only [numsOf, numOf_no1 hv]; rfl
            clear hv
            go_wp2_with fail
            go_ret2
            rw [HNO.out]
            exact ⟨HE.out, rfl⟩
        · obtain rfl : k = m := by omega
          have HNO : Hid (numsOf ws = some ns) := by show _ = _; rw [HQ.out, List.drop_of_length_le (by rw [HLen.out]; exact Nat.le_refl _)]; simp [numsOf]
          have HE : Hid (Below w.heap.size w wr) := HB1.out.trans (HBR.out.mono (by omega))
          go_wp2_with fail
          go_ret2
          rw [HNO.out]
          exact ⟨HE.out, _, rfl, by rw [HNL.out]; exact own_base HO.out (Nat.le_succ _)⟩
    · rw [if_neg (fun h => hww h.2)]
      have q2 : (w0 == word) = false := by rw [beq_eq_false_iff_ne]; exact hww
      have q3 : (!w0 == word) = true := by rw [q2]; rfl
      clear hww
      have h0 := HW0.out
      unfold str at h0
      clear HW0 HWK HTT
      go_enter Tryz.func30, Tryz.ntmps30
      go_wp2_with fail
      refine HSP.out.mono ?_
      rintro e w2 ⟨rfl, rfl⟩
      go_wp2_with fail
      go_ret2
      exact ⟨HB1.out, rfl⟩
  · have q1 : (((m + 1 : Nat) : Int) == (many : Int) + 1) = false := by rw [beq_eq_false_iff_ne]; omega
    rw [if_neg (by rw [HLen.out]; exact fun h => hmm h.1)]
    have q0 : ((m : Int) = (many : Int)) = False := eq_false (by omega)
    have h0 := HW0.out
    unfold str at h0
    clear HW0 HWK HTT hz hmm
    go_enter Tryz.func30, Tryz.ntmps30
    go_wp2_with fail
    refine HSP.out.mono ?_
    rintro e w2 ⟨rfl, rfl⟩
    go_wp2_with fail
    go_ret2
    exact ⟨HB1.out, rfl⟩
end Go.Proofs.YthaiopgmncnekaaGreatDoor
