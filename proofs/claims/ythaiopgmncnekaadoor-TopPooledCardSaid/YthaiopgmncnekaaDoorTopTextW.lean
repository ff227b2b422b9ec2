/- The walk of TopText. Condition: the listed variables as they are laid; a short list. -/
import Derived.Test.YthaiopgmncnekaaDoorPrint
import Derived.Test.YthaiopgmncnekaaDoorAl
set_option linter.unusedSimpArgs false
set_option linter.unusedVariables false
namespace Go.Proofs.YthaiopgmncnekaaDoor
open Go.RowKit
def natP (p : Int × Int) : Nat × Nat := (p.1.toNat, p.2.toNat)
def intP (p : Nat × Nat) : Int × Int := (p.1, p.2)
theorem adds_text : ∀ l : List (Nat × Nat), ((l.map intP).map addLn).flatten = addsT l
  | [] => rfl
  | (x, d) :: l => by
    have ih := adds_text l
    show addLn (intP (x, d)) ++ ((l.map intP).map addLn).flatten = line wAdd [x, d] ++ 10 :: addsT l
    rw [ih]
    simp [addLn, intP, line, glue, wAdd, num]
theorem ptext_text (r : Nat) (l : List (Nat × Nat)) : ptext r (l.map intP) = textT r l := by
  unfold ptext textT
  rw [adds_text]
  simp [roomLn, line, glue, wRoom, num]
theorem int_nat {zs : List (Int × Int)} (h : ∀ p ∈ zs, fitI p.1 ∧ fitI p.2) : (zs.map natP).map intP = zs ∧ fitsL (zs.map natP) := by
  constructor
  · rw [List.map_map]
    conv => rhs; rw [← List.map_id zs]
    refine List.map_congr_left fun p hp => ?_
    obtain ⟨h1, h2⟩ := h p hp
    unfold fitI at h1 h2
    show ((((p.1.toNat : Nat) : Int)), ((p.2.toNat : Nat) : Int)) = p
    rw [show ((p.1.toNat : Nat) : Int) = p.1 by omega, show ((p.2.toNat : Nat) : Int) = p.2 by omega]
  · intro q hq
    obtain ⟨p, hp, rfl⟩ := List.mem_map.1 hq
    obtain ⟨h1, h2⟩ := h p hp
    unfold fitI at h1 h2
    unfold big natP
    simp only
    omega
theorem parse_ptext {r : Int} {zs : List (Int × Int)} (hr : fitI r) (h : ∀ p ∈ zs, fitI p.1 ∧ fitI p.2) : parse (ptext r zs) = .ok (r.toNat, zs.map natP) := by
  obtain ⟨h1, h2⟩ := int_nat h
  rw [parse_ok]
  unfold fitI at hr
  refine ⟨⟨by unfold big; omega, h2⟩, ?_⟩
  rw [← ptext_text, h1, show ((r.toNat : Nat) : Int) = r by omega]
theorem fits_all {l : List (Nat × Nat)} (h : fitsL l) : ∀ p ∈ l.map intP, fitI p.1 ∧ fitI p.2 := by
  intro q hq
  obtain ⟨p, hp, rfl⟩ := List.mem_map.1 hq
  have := h p hp
  unfold big at this
  unfold intP fitI
  simp only
  omega
theorem ptext_len {r : Int} {zs : List (Int × Int)} (hr : fitI r) (h : ∀ p ∈ zs, fitI p.1 ∧ fitI p.2) (hz : zs.length ≤ 1048577) : (ptext r zs).length < 4294967281 := by
  have h1 : (roomLn r).length ≤ 27 := by have := fit_len hr; unfold roomLn; simp; omega
  have h2 : ∀ zs : List (Int × Int), (∀ p ∈ zs, fitI p.1 ∧ fitI p.2) → ((zs.map addLn).flatten).length ≤ 48 * zs.length := by
    intro zs
    induction zs with
    | nil => intro _; simp
    | cons p l ih =>
      intro h
      have e1 := addLn_len (p := p) (h p (List.mem_cons_self ..)).1 (h p (List.mem_cons_self ..)).2
      have e2 := ih fun q hq => h q (List.mem_cons_of_mem _ hq)
      rw [List.map_cons, List.flatten_cons, List.length_append, List.length_cons]
      omega
  have h3 := h2 zs h
  unfold ptext
  rw [List.length_append]
  omega
theorem RdC.form {w : World} {v : Value} {zs : List (Int × Int)} (h : RdC w v zs) : ∃ a k, v = .slice a zs.length k := by
  obtain ⟨a, cap, rfl, _⟩ := h; exact ⟨a, cap, rfl⟩
/-- What Tell answers to what Print wrote. -/
theorem tell_text (r : Int) (zs : List (Int × Int)) (w : World) (hT : TW w) (hr : fitI r) (hf : ∀ p ∈ zs, fitI p.1 ∧ fitI p.2) (hz : zs.length ≤ 1048577) :
    Calls Tryd.prog 9 #[.string ⟨(ptext r zs).toArray⟩] w fun e w' => Below w.heap.size w w' ∧ ((¬ (1 ≤ r ∧ r ≤ 400) ∧ e = .returned (.tuple #[.slice none 0 0, .int .i64 2])) ∨
      ((1 ≤ r ∧ r ≤ 400) ∧ ∃ g cap, e = .returned (.tuple #[.slice (some ⟨g, 0, none⟩) (zs.length + 1) cap, .int .i64 0]) ∧ w'.ownsRow w.heap.size 9 1 (.slice (some ⟨g, 0, none⟩) (zs.length + 1) cap) (zs.length + 1) ((told r (zs.map natP)).map str))) := by
  refine (tell_any (ptext r zs) w hT (ptext_len hr hf hz)).mono ?_
  rintro e w' ⟨hb, h⟩
  refine ⟨hb, ?_⟩
  rw [parse_ptext hr hf] at h
  have hrr : ((r.toNat : Nat) : Int) = r := by unfold fitI at hr; omega
  unfold TellP at h
  simp only at h
  rw [hrr, List.length_map] at h
  split at h
  · rename_i hc
    obtain ⟨v, rfl, hv⟩ := h
    obtain ⟨g, cap, rfl⟩ := own_slice hv (Nat.succ_pos _)
    exact .inr ⟨by omega, g, cap, rfl, hv⟩
  · rename_i hc
    exact .inl ⟨by omega, h⟩
theorem new_c (r : Int) (w : World) : Calls Tryd.prog 10 #[.int .i64 r] w fun e w' => e = .returned (if 1 ≤ r ∧ r ≤ 400 then .tuple #[.agg #[.int .i64 r, .int .i64 0, .slice none 0 0], .int .i64 0] else .tuple #[.agg #[.int .i64 0, .int .i64 0, .slice none 0 0], .int .i64 2]) ∧ Below w.heap.size w w' := new_any r w
theorem say_ne {s : Int × List Int} {p : Nat × Nat} : (sayL s p == [111, 107]) = decide (addE s.1 p.2 = 0) := by
  unfold sayL
  by_cases h : addE s.1 p.2 = 0
  · rw [if_pos h, decide_eq_true h]; rfl
  · rw [if_neg h, decide_eq_false h, beq_eq_false_iff_ne]
    intro e
    have := congrArg List.head? e
    simp at this
set_option maxHeartbeats 1600000 in
set_option maxRecDepth 20000 in
theorem text_walk (r : Int) (v : Value) (zs : List (Int × Int)) (w : World) (hT : TW w) (hv : RdC w v zs) (hz : zs.length ≤ 1048576) :
    Calls Tryd.prog 3 #[.int .i64 r, v] w fun e w' => e = .returned (.bool true) ∧ Below w.heap.size w w' := by
  have HTT := Lib.hid hT
  have HA := Lib.hid (alive_any w hT)
  have HV := Lib.hid hv
  obtain ⟨va, vk, rfl⟩ := hv.form
  obtain ⟨n, hn⟩ : ∃ n, zs.length = n := ⟨_, rfl⟩
  have HN := Lib.hid hn
  rw [hn] at HV hz ⊢
  clear hT hv hn
  go_enter Tryd.func3, Tryd.ntmps3
  go_wp2_with fail
  refine HA.out.mono ?_
  rintro e w1 ⟨rfl, hb1⟩
  have HB1 := Lib.hid hb1
  have HP1 := Lib.hid (print_any r _ zs w1 (HTT.out.below hb1 (Nat.le_refl _)) (HV.out.below hb1) (by rw [HN.out]; omega))
  clear hb1
  go_wp2_with fail
  refine HP1.out.mono ?_
  rintro e w2 ⟨hp, hb2⟩
  have HB2 := Lib.hid (HB1.out.trans (hb2.mono HB1.out.size))
  clear hb2
  rcases hp with ⟨⟨hr, hf⟩, rfl⟩ | ⟨hn, rfl⟩
  · have HTL := Lib.hid (tell_text r zs w2 (HTT.out.below HB2.out (Nat.le_refl _)) hr hf (by rw [HN.out]; omega))
    have HF := Lib.hid hf
    rw [HN.out] at HTL
    obtain ⟨PT, hPT⟩ : ∃ PT, ptext r zs = PT := ⟨_, rfl⟩
    rw [hPT] at HTL ⊢
    clear hf hPT
    go_wp2_with fail
    refine HTL.out.mono ?_
    rintro e w3 ⟨hb3, hs⟩
    have HB3 := Lib.hid (HB2.out.trans (hb3.mono HB2.out.size))
    clear hb3
    rcases hs with ⟨hr4, rfl⟩ | ⟨hr4, g, cap, rfl, hown⟩
    · have HNW : Hid (∀ w, Calls Tryd.prog 10 #[.int .i64 r] w fun e w' => e = .returned (.tuple #[.agg #[.int .i64 0, .int .i64 0, .slice none 0 0], .int .i64 2]) ∧ Below w.heap.size w w') := fun w => by have := new_c r w; rwa [if_neg hr4] at this
      clear hr4 hr
      go_wp2_with fail
      refine (HNW.out _).mono ?_
      rintro e w4 ⟨rfl, hb4⟩
      have HB4 := Lib.hid (HB3.out.trans (hb4.mono HB3.out.size))
      clear hb4
      have hs4 := HB4.out.size
      go_wp2_with fail
      go_ret
      exact ⟨rfl, HB4.out.alloc hs4 _⟩
    · have HNW : Hid (∀ w, Calls Tryd.prog 10 #[.int .i64 r] w fun e w' => e = .returned (.tuple #[.agg #[.int .i64 r, .int .i64 0, .slice none 0 0], .int .i64 0]) ∧ Below w.heap.size w w') := fun w => by have := new_c r w; rwa [if_pos hr4] at this
      have HOWN := Lib.hid hown
      have HR4 := Lib.hid hr4
      have hgl : g < w3.heap.size := (hown.lt g rfl).2
      clear hown hr
      go_wp2_with fail
      refine (HNW.out _).mono ?_
      rintro e w4 ⟨rfl, hb4⟩
      have HB4 := Lib.hid (HB3.out.trans (hb4.mono HB3.out.size))
      have hg4 : g < w4.heap.size := by have := hb4.size; omega
      have HSTR : Hid (∀ j, j < ((told r (zs.map natP)).map bs).length → w4.cell? ⟨g, 0 + j, none⟩ = some (.string (((told r (zs.map natP)).map bs).getD j ByteArray.empty))) := fun j hj => (World.cell?_of_block (hb4.block g hgl)).trans (own_strs HOWN.out j hj)
      have HV4 := Lib.hid (HV.out.below (w := w) (w' := w4) (HB4.out))
      have hs4 := HB4.out.size
      clear hb4
      go_wp2_with fail
      have hbx0 := BX.new w4 r 0 (.slice none 0 0)
      have hw41 : Below w4.heap.size w4 (w4.alloc (.cells #[.int .i64 r, .int .i64 0, .slice none 0 0] 32)) := (Below.refl _ _).alloc (Nat.le_refl _) _
      clear hw41 hbx0
      go_loopw [59] (fun kv wr => ∃ (k : Nat) (c : Int) (ys : List Int) (o : List (List UInt8)) (hv : Value), k ≤ n ∧ kv = .int .i64 k ∧ Hid (OkS r (c, ys)) ∧ Hid (runT r (0, []) (zs.map natP) = runT r (c, ys) ((zs.map natP).drop k)) ∧ Hid (sayT r (0, []) (zs.map natP) = o ++ sayT r (c, ys) ((zs.map natP).drop k)) ∧ Hid (o.length = k) ∧ Hid (Below w4.heap.size w4 wr) ∧ Hid (w4.heap.size + 1 ≤ wr.heap.size) ∧ Hid (BX wr w4.heap.size r c hv) ∧ Hid (wr.ownsRow (w4.heap.size + 1) 3 1 hv ys.length (ys.map (Value.int .i64)))) (fun kv _ => n - (intOf kv).toNat)
      case atStart =>
        exact ⟨0, 0, [], [], .slice none 0 0, Nat.zero_le _, rfl, OkS.new HR4.out, rfl, rfl, rfl, (Below.refl _ _).alloc (Nat.le_refl _) _, by show _ ≤ _; simp, BX.new _ _ _ _, World.ownsRow_nil _ _ _ _⟩
      case round =>
        obtain ⟨k, c, ys, o, hv, hk, rfl, HOK, HRUN, HSAY, HOL, HB, HSZ, HX, HZ⟩ := hrel
        by_cases hlt : k < n
        · have hlt2 : (k : Int) < (n : Int) := by omega
          have hkl : k < zs.length := by rw [HN.out]; exact hlt
          have hkm : k < (zs.map natP).length := by rw [List.length_map]; exact hkl
          have hne : zs ≠ [] := fun h => by rw [h] at hkl; cases hkl
          obtain ⟨va', vk', hveq, hcs0⟩ := HV4.out
          injection hveq with hv1 hv2 hv3
          subst hv1
          obtain ⟨b0, off, rfl, hb0, hcs⟩ := hcs0 hne
          obtain ⟨hc0, hc1⟩ := hcs k hkl
          have hpf := HF.out (zs.getD k (0, 0)) (by rw [List.getD_eq_getElem?_getD, List.getElem?_eq_getElem hkl]; exact List.getElem_mem hkl)
          have hd : (zs.map natP).drop k = natP (zs.getD k (0, 0)) :: (zs.map natP).drop (k + 1) := by
            rw [List.drop_eq_getElem_cons hkm, List.getElem_map, List.getD_eq_getElem?_getD, List.getElem?_eq_getElem hkl]; rfl
          obtain ⟨⟨x, d⟩, hp⟩ : ∃ p, zs.getD k (0, 0) = p := ⟨_, rfl⟩
          rw [hp] at hc0 hc1 hd hpf
          have hpx : ((x.toNat : Nat) : Int) = x := by have := hpf.1; unfold fitI at this; simp only at this; omega
          have hpd : ((d.toNat : Nat) : Int) = d := by have := hpf.2; unfold fitI at this; simp only at this; omega
          have hxb : (natP (x, d)).1 ≤ big := by have := hpf.1; unfold fitI at this; simp only at this; unfold big natP; simp only; omega
          have C0 : wr.cell? ⟨b0, off + k * 2, none⟩ = some (.int .i64 x) := (World.cell?_of_block (HB.out.block b0 hb0)).trans hc0
          have C1 : wr.cell? ⟨b0, off + k * 2 + 1, none⟩ = some (.int .i64 d) := (World.cell?_of_block (HB.out.block b0 hb0)).trans hc1
          have HRUN := Lib.hid HRUN.out
          have HSAY := Lib.hid HSAY.out
          rw [hd] at HRUN HSAY
          have hOK2 := HOK.out.step (p := natP (x, d)) hxb
          have hRUN2 : runT r (0, []) (zs.map natP) = runT r (stp r (c, ys) (natP (x, d))) ((zs.map natP).drop (k + 1)) := HRUN.out
          have hSAY2 : sayT r (0, []) (zs.map natP) = (o ++ [sayL (c, ys) (natP (x, d))]) ++ sayT r (stp r (c, ys) (natP (x, d))) ((zs.map natP).drop (k + 1)) := by rw [HSAY.out]; simp [sayT]
          have hsn := say_ne (s := (c, ys)) (p := natP (x, d))
          obtain ⟨SK, hSK⟩ : ∃ SK, sayL (c, ys) (natP (x, d)) = SK := ⟨_, rfl⟩
          rw [hSK] at hSAY2 hsn
          have hcell4 : w4.cell? ⟨g, k, none⟩ = some (.string ⟨SK.toArray⟩) := by
            have h1 := HSTR.out k (by rw [List.length_map, told_len, List.length_map, HN.out]; omega)
            rw [Nat.zero_add] at h1
            rw [h1]
            have ho : k = o.length := HOL.out.symm
            unfold told
            rw [hSAY2, List.getD_eq_getElem?_getD, List.getElem?_map, List.append_assoc, List.append_assoc, List.getElem?_append_right (by omega), ho, Nat.sub_self]
            rfl
          have hcellr : wr.cell? ⟨g, k, none⟩ = some (.string ⟨SK.toArray⟩) := (World.cell?_of_block (HB.out.block g hg4)).trans hcell4
          have hgr : g < wr.heap.size := by have := HSZ.out; omega
          have hadd : addE c ((natP (x, d)).2 : Nat) = addE c d := by show addE c ((d.toNat : Nat) : Int) = _; rw [hpd]
          have hstp : stp r (c, ys) (natP (x, d)) = if addE c d = 0 then (c + 1, addL r ys x d) else (c, ys) := by
            show (if addE c ((d.toNat : Nat) : Int) = 0 then (c + 1, addL r ys ((x.toNat : Nat) : Int) ((d.toNat : Nat) : Int)) else (c, ys)) = _
            rw [hpd, hpx]
          rw [hstp] at hOK2 hRUN2 hSAY2
          have hsn2 : (SK == [111, 107]) = decide (addE c d = 0) := by rw [hsn]; show decide (addE c ((natP (x, d)).2 : Nat) = 0) = _; rw [hadd]
          clear HRUN HSAY hd hp hc0 hc1 hcs hcs0 hpf hkl hne hsn hSK hcell4 hadd hstp hpx hpd hxb hkm hv2 hv3
          obtain ⟨a2, k2, rfl⟩ := own_form HZ.out
          have HX1 : Hid (BX (wr.alloc (.cells #[.int .i64 x, .int .i64 d] 36)) w4.heap.size r c (.slice a2 ys.length k2)) := HX.out.below ((Below.refl wr.heap.size wr).alloc (Nat.le_refl _) _) HSZ.out
          have d0 := HX1.out.c0
          have d1 := HX1.out.c1
          have d2 := HX1.out.c2
          have hsz := HSZ.out
          by_cases he : addE c d = 0
          · rw [if_pos he] at hOK2 hRUN2 hSAY2
            rw [decide_eq_true he] at hsn2
            have HOK2 := Lib.hid hOK2
            have HRUN2 := Lib.hid hRUN2
            have HSAY2 := Lib.hid hSAY2
            have HADD : Hid (∀ w', Rd w' (.slice a2 ys.length k2) ys → Calls Tryd.prog 11 #[.agg #[.int .i64 r, .int .i64 c, .slice a2 ys.length k2], .int .i64 x, .int .i64 d] w' fun e w3 => Below w'.heap.size w' w3 ∧ ∃ v', e = .returned (.tuple #[.agg #[.int .i64 r, .int .i64 (c + 1), v'], .int .i64 0]) ∧ w3.ownsRow w'.heap.size 3 1 v' (addL r ys x d).length ((addL r ys x d).map (Value.int .i64))) := fun w' h => add_ok r c x d _ ys w' h HOK.out.1 he
            have HRD : Hid (Rd (wr.alloc (.cells #[.int .i64 x, .int .i64 d] 36)) (.slice a2 ys.length k2) ys) := (Rd.own HZ.out).alloc _
            obtain ⟨m, hm⟩ : ∃ m, ys.length = m := ⟨_, rfl⟩
            rw [hm] at HADD HRD d2 HX1 HZ HX
            obtain ⟨ys2, hy2⟩ : ∃ ys2, addL r ys x d = ys2 := ⟨_, rfl⟩
            rw [hy2] at HADD HOK2 HRUN2 HSAY2
            clear hOK2 hRUN2 hSAY2 he hm hy2
            go_wp2_with fail
            refine (HADD.out _ HRD.out).mono ?_
            rintro e w5 ⟨hb5, v', rfl, hv'⟩
            have hb6 : Below wr.heap.size wr w5 := ((Below.refl wr.heap.size wr).alloc (Nat.le_refl _) _).trans (hb5.mono (by simp))
            have hs5 : wr.heap.size + 1 ≤ w5.heap.size := by have := hb5.size; simpa using this
            have HX3 := Lib.hid (HX1.out.below hb5 (by simp; omega))
            have HV3 := Lib.hid (own_base hv' (show w4.heap.size + 1 ≤ _ by simp; omega))
            have HB6 := Lib.hid (HB.out.trans (hb6.mono HB.out.size))
            obtain ⟨a3, k3, rfl⟩ := own_form hv'
            obtain ⟨m3, hm3⟩ : ∃ m3, ys2.length = m3 := ⟨_, rfl⟩
            rw [hm3] at HV3 ⊢
            have HM3 := Lib.hid hm3
            have hc5 : w5.cell? ⟨g, k, none⟩ = some (.string ⟨SK.toArray⟩) := (World.cell?_of_block (hb6.block g hgr)).trans hcellr
            have hcA : (w5.alloc (.cells #[.int .i64 r, .int .i64 (c + 1), .slice a3 m3 k3] 32)).cell? ⟨g, k, none⟩ = some (.string ⟨SK.toArray⟩) := (World.cell?_of_block (Below.heap_alloc _ _ _ (by show g < _; omega))).trans hc5
            clear hb5 hb6 hv' hm3 d0 d1 d2 C0 C1 hcellr hc5
            have HX4 : Hid (BX (w5.alloc (.cells #[.int .i64 r, .int .i64 (c + 1), .slice a3 m3 k3] 32)) w4.heap.size r c (.slice a2 m k2)) := HX3.out.below ((Below.refl w5.heap.size w5).alloc (Nat.le_refl _) _) (by omega)
            have e0 := HX4.out.c0
            have e1 := HX4.out.c1
            have e2 := HX4.out.c2
            have f0 := HX4.out.fr 0
            have f1 := HX4.out.fr 1
            have f2 := HX4.out.fr 2
            have HV4' : Hid (((((w5.alloc (.cells #[.int .i64 r, .int .i64 (c + 1), .slice a3 m3 k3] 32)).setCell ⟨w4.heap.size, 0, none⟩ (.int .i64 r)).setCell ⟨w4.heap.size, 1, none⟩ (.int .i64 (c + 1))).setCell ⟨w4.heap.size, 2, none⟩ (.slice a3 m3 k3)).ownsRow (w4.heap.size + 1) 3 1 (.slice a3 m3 k3) m3 (ys2.map (Value.int .i64))) :=
              own_store (own_store (own_store (HV3.out.alloc _) (Nat.lt_succ_self _) _) (Nat.lt_succ_self _) _) (Nat.lt_succ_self _) _
            have HX5 : Hid (BX ((((w5.alloc (.cells #[.int .i64 r, .int .i64 (c + 1), .slice a3 m3 k3] 32)).setCell ⟨w4.heap.size, 0, none⟩ (.int .i64 r)).setCell ⟨w4.heap.size, 1, none⟩ (.int .i64 (c + 1))).setCell ⟨w4.heap.size, 2, none⟩ (.slice a3 m3 k3)) w4.heap.size r (c + 1) (.slice a3 m3 k3)) := ((HX4.out.set0 r).set1 (c + 1)).set2 _
            have HB7 : Hid (Below w4.heap.size w4 ((((w5.alloc (.cells #[.int .i64 r, .int .i64 (c + 1), .slice a3 m3 k3] 32)).setCell ⟨w4.heap.size, 0, none⟩ (.int .i64 r)).setCell ⟨w4.heap.size, 1, none⟩ (.int .i64 (c + 1))).setCell ⟨w4.heap.size, 2, none⟩ (.slice a3 m3 k3))) := (((HB6.out.alloc (by omega) _).setCell (Nat.le_refl _) _).setCell (Nat.le_refl _) _).setCell (Nat.le_refl _) _
            have HS9 : Hid (w4.heap.size + 1 ≤ ((((w5.alloc (.cells #[.int .i64 r, .int .i64 (c + 1), .slice a3 m3 k3] 32)).setCell ⟨w4.heap.size, 0, none⟩ (.int .i64 r)).setCell ⟨w4.heap.size, 1, none⟩ (.int .i64 (c + 1))).setCell ⟨w4.heap.size, 2, none⟩ (.slice a3 m3 k3)).heap.size) := by show _ ≤ _; simp [World.setCell]; omega
            go_wp2_with fail
            go_roundw
            case rel => exact ⟨k + 1, c + 1, ys2, o ++ [SK], _, by omega, by go_num, HOK2.out, HRUN2.out, HSAY2.out, by show _ = _; rw [List.length_append, HOL.out]; rfl, HB7.out, HS9.out, HX5.out, by show World.ownsRow _ _ _ _ _ _ _; rw [HM3.out]; exact HV4'.out⟩
            case measure => simp [intOf]; omega
          · rw [if_neg he] at hOK2 hRUN2 hSAY2
            rw [decide_eq_false he] at hsn2
            have HOK2 := Lib.hid hOK2
            have HRUN2 := Lib.hid hRUN2
            have HSAY2 := Lib.hid hSAY2
            have HADD : Hid (∀ w', Calls Tryd.prog 11 #[.agg #[.int .i64 r, .int .i64 c, .slice a2 ys.length k2], .int .i64 x, .int .i64 d] w' fun e w3 => e = .returned (.tuple #[.agg #[.int .i64 0, .int .i64 0, .slice none 0 0], .int .i64 (addE c d)]) ∧ Below w'.heap.size w' w3) := fun w' => add_bad r c x d a2 ys.length k2 w' HOK.out.1 he
            obtain ⟨E, hE⟩ : ∃ E, addE c d = E := ⟨_, rfl⟩
            rw [hE] at he HADD
            have qE : (E == 0) = false := by rw [beq_eq_false_iff_ne]; exact he
            have qE3 : (E = 0) = False := eq_false he
            obtain ⟨m, hm⟩ : ∃ m, ys.length = m := ⟨_, rfl⟩
            have HZM := Lib.hid hm
            rw [hm] at HADD d2 HX1 HZ HX
            clear hOK2 hRUN2 hSAY2 he hm hE
            go_wp2_with fail
            refine (HADD.out _).mono ?_
            rintro e w5 ⟨rfl, hb5⟩
            have hb6 : Below wr.heap.size wr w5 := ((Below.refl wr.heap.size wr).alloc (Nat.le_refl _) _).trans (hb5.mono (by simp))
            have hs5 : wr.heap.size + 1 ≤ w5.heap.size := by have := hb5.size; simpa using this
            have hb7 : Below wr.heap.size wr (w5.alloc (.cells #[.int .i64 0, .int .i64 0, .slice none 0 0] 32)) := hb6.alloc (by omega) _
            have hcA : (w5.alloc (.cells #[.int .i64 0, .int .i64 0, .slice none 0 0] 32)).cell? ⟨g, k, none⟩ = some (.string ⟨SK.toArray⟩) := (World.cell?_of_block (hb7.block g hgr)).trans hcellr
            have HV5 := Lib.hid (own_below HZ.out hb7 (Nat.le_refl _))
            have HX5 := Lib.hid (HX.out.below hb7 (by omega))
            have HB5 := Lib.hid (HB.out.trans (hb7.mono HB.out.size))
            have HS5 : Hid (w4.heap.size + 1 ≤ (w5.alloc (.cells #[.int .i64 0, .int .i64 0, .slice none 0 0] 32)).heap.size) := by show _ ≤ _; simp; omega
            clear hb5 hb6 hb7 d0 d1 d2 C0 C1 hcellr
            go_wp2_with fail
            go_roundw
            case rel => exact ⟨k + 1, c, ys, o ++ [SK], _, by omega, by go_num, HOK2.out, HRUN2.out, HSAY2.out, by show _ = _; rw [List.length_append, HOL.out]; rfl, HB5.out, HS5.out, HX5.out, by show World.ownsRow _ _ _ _ _ _ _; rw [HZM.out]; exact HV5.out⟩
            case measure => simp [intOf]; omega
        · obtain rfl : k = n := by omega
          have hdr : (zs.map natP).drop k = [] := List.drop_of_length_le (by rw [List.length_map, HN.out]; exact Nat.le_refl _)
          have hrun : runT r (0, []) (zs.map natP) = (c, ys) := by rw [HRUN.out, hdr]; rfl
          have hsay : sayT r (0, []) (zs.map natP) = o := by rw [HSAY.out, hdr]; simp [sayT]
          obtain ⟨KT, hKT⟩ : ∃ KT, keptT (c, ys) = KT := ⟨_, rfl⟩
          have hcell4 : w4.cell? ⟨g, k, none⟩ = some (.string ⟨KT.toArray⟩) := by
            have h1 := HSTR.out k (by rw [List.length_map, told_len, List.length_map, HN.out]; omega)
            rw [Nat.zero_add] at h1
            rw [h1]
            have ho : k = o.length := HOL.out.symm
            unfold told
            rw [hsay, hrun, hKT, List.getD_eq_getElem?_getD, List.getElem?_map, List.getElem?_append_right (by omega), ho, Nat.sub_self]
            rfl
          have hc0 : wr.cell? ⟨g, k, none⟩ = some (.string ⟨KT.toArray⟩) := (World.cell?_of_block (HB.out.block g hg4)).trans hcell4
          have hgr : g < wr.heap.size := by have := HSZ.out; omega
          have hbr : w4.heap.size < wr.heap.size := by have := HSZ.out; omega
          have hc1 := HX.out.c1
          have hcb : -9223372036854775808 ≤ c ∧ c ≤ 9223372036854775807 := by have h : RightP r c ys.length := HOK.out.1; obtain ⟨_, _, _, _, _⟩ := h; omega
          have q1 : (9223372036854775807 < 5 + (Lib.itoa c).length) = False := eq_false (by have := Lib.itoa_length_le c hcb.1 hcb.2; omega)
          have HBE : Hid (Below w.heap.size w wr) := HB4.out.trans (HB.out.mono hs4)
          have HI : Hid (Calls Tryd.prog 13 #[.int .i64 c] wr.drew fun e w' => e = .returned (.string ⟨(Lib.itoa c).toArray⟩) ∧ Below wr.drew.heap.size wr.drew w') := itoa_any c wr.drew (HTT.out.below HBE.out.drew (Nat.le_refl _)) hcb
          have HPX : Hid (∀ w', Calls Tryd.prog 12 #[.string ⟨KT.toArray⟩, .string ((⟨#[107, 101, 112, 116, 32]⟩ : ByteArray) ++ (⟨(Lib.itoa c).toArray⟩ : ByteArray))] w' fun e w2 => e = .returned (.bool true) ∧ w2 = w') := fun w' => by
            show Calls _ _ _ _ _
            rw [show (⟨#[107, 101, 112, 116, 32]⟩ : ByteArray) = ⟨[107, 101, 112, 116, 32].toArray⟩ from rfl, str_app]
            refine (Tryd.strings_HasPrefix _ _ w').mono ?_
            rintro e w2 ⟨rfl, rfl⟩
            refine ⟨?_, rfl⟩
            rw [show Lib.hasPrefix KT ([107, 101, 112, 116, 32] ++ Lib.itoa c) = true from by
              rw [← hKT]
              unfold Lib.hasPrefix keptT
              rw [List.isPrefixOf_iff_prefix]
              exact ⟨spell ys, rfl⟩]
          have SB : Hid (∀ w', Below wr.heap.size wr w' → w'.cell? ⟨g, k, none⟩ = some (.string ⟨KT.toArray⟩) ∧ w'.cell? ⟨w4.heap.size, 1, none⟩ = some (.int .i64 c)) := fun w' hb => ⟨(World.cell?_of_block (hb.block g hgr)).trans hc0, (World.cell?_of_block (hb.block _ hbr)).trans hc1⟩
          have b1 : (0 ≤ (k : Int) ∧ (k : Int) < (k : Int) + 1) = True := eq_true ⟨Int.natCast_nonneg _, by omega⟩
          clear hdr hrun hsay hKT hcell4 hcb
          go_wp2_with fail
          have b2 : (0 ≤ (k : Int) ∧ (k : Int) < ((k + 1 : Nat) : Int)) = True := eq_true ⟨Int.natCast_nonneg _, by omega⟩
          have b3 : ((k : Int) < ((k + 1 : Nat) : Int)) = True := eq_true (by omega)
          have b4 : ((k : Int) < (k : Int) + 1) = True := eq_true (by omega)
          have b5 : (k < k + 1) = True := eq_true (by omega)
          have b6 : ((k : Int) + 1 ≤ (k : Int)) = False := eq_false (by omega)
          have b7 : (k + 1 ≤ k) = False := eq_false (by omega)
          have b8 : (0 ≤ (k : Int)) = True := eq_true (Int.natCast_nonneg _)
          go_region_held3 (fun w' => w'.cell? ⟨g, k, none⟩ = some (.string ⟨KT.toArray⟩) ∧ w'.cell? ⟨w4.heap.size, 1, none⟩ = some (.int .i64 c)) (first | exact ⟨hc0, hc1⟩ | exact SB.out _ (Below.drew (Below.refl _ _)) | exact SB.out _ (by assumption)) (first
            | (go_at_call 13; with_reducible refine HI.out.mono ?_; rintro e w5 ⟨rfl, hb5'⟩; have hb5 : Below wr.heap.size wr w5 := (Below.drew (Below.refl _ _)).trans (hb5'.mono (Nat.le_refl _)))
            | (go_at_call 12; with_reducible refine (HPX.out _).mono ?_; rintro e w6 ⟨rfl, rfl⟩))
          all_goals
            go_wp2_with fail
            go_ret
            exact ⟨rfl, HBE.out.trans (hb5.mono HBE.out.size)⟩
  · clear hn
    go_wp2_with fail
    go_ret
    exact ⟨rfl, HB2.out⟩
theorem topText.walk (r : Int) (a : Option Addr) (len cap : Nat) (zs : List (Int × Int)) (w : World) (hT : TW w) (_ : (Lit.int .i64 r).wf = true) (hv : RdC w (.slice a len cap) zs) (hz : zs.length ≤ 1048576) :
    Calls Tryd.prog 3 #[.int .i64 r, .slice a len cap] w fun e w' => e = .returned (.bool true) ∧ Below w.heap.size w w' := text_walk r _ zs w hT hv hz
end Go.Proofs.YthaiopgmncnekaaDoor
