/- What PoolSmaller does with a pool. No condition. -/
import Derived.Test.YtimknmofcnhbpaaSmallL
import Derived.Deep.RegionHeld3
set_option linter.unusedSimpArgs false
set_option linter.unusedVariables false
namespace Go.Proofs.Ytimknmofcnhbpaa
open Go.RowKit Go.Maps
/-- A block of one cell. -/
def C1 (w : World) (b : Nat) (v : Value) (t : TypeId) : Prop := w.heap[b]? = some (.cells #[v] t (0, 0))
theorem C1.lt {w : World} {b : Nat} {v : Value} {t : TypeId} (h : C1 w b v t) : b < w.heap.size := lt_of_block h
theorem C1.cell {w : World} {b : Nat} {v : Value} {t : TypeId} (h : C1 w b v t) : w.cell? ⟨b, 0, none⟩ = some v := cell_of_one h
theorem C1.free {w : World} {b : Nat} {v : Value} {t : TypeId} (h : C1 w b v t) : w.frozen? ⟨b, 0, none⟩ = false := free_of_one h
theorem C1.kept {w w' : World} {b B : Nat} {v : Value} {t : TypeId} (h : C1 w b v t) (hb : Below B w w') (hB : b < B) : C1 w' b v t := (hb.block b hB).trans h
theorem C1.grown {w w' : World} {b mb : Nat} {v : Value} {t : TypeId} (h : C1 w b v t) (hg : w.grownBy w' (some mb)) (hne : b ≠ mb) : C1 w' b v t := (hg.block b h.lt (by simpa using hne)).trans h
theorem C1.other {w : World} {b : Nat} {v : Value} {t : TypeId} (h : C1 w b v t) {p : Addr} (hp : p.block ≠ b) (u : Value) : C1 (w.setCell p u) b v t := (Below.heap_setCell w p u b (by omega)).trans h
theorem C1.set {w : World} {b : Nat} {v : Value} {t : TypeId} (h : C1 w b v t) (u : Value) : C1 (w.setCell ⟨b, 0, none⟩ u) b u t := by
  have := heap_at_setCell (j := 0) (u := u) h
  simpa [C1] using this
theorem C1.new (w : World) (v : Value) (t : TypeId) : C1 (w.alloc (.cells #[v] t)) w.heap.size v t := heap_alloc_new w _
theorem MC.obj {w : World} {b n : Nat} {L} (h : MC w b n L) : ∃ es clock, w.heap[b]? = some (.map es clock) := by
  obtain ⟨D, ⟨es, clock, h1, _⟩, _⟩ := h
  exact ⟨es, clock, h1⟩
theorem C1.ne {w : World} {b mb n : Nat} {v : Value} {t : TypeId} {L} (h : C1 w b v t) (hM : MC w mb n L) : b ≠ mb := by
  rintro rfl
  obtain ⟨es, clock, h1⟩ := hM.obj
  unfold C1 at h
  rw [h1] at h
  cases h
theorem Rd.grown {w w' : World} {mb n : Nat} {v : Value} {zs : List Int} {L} (h : Rd w v zs) (hM : MC w mb n L) (hg : w.grownBy w' (some mb)) : Rd w' v zs := by
  obtain ⟨a, cap, rfl, h1, h2, h3⟩ := h
  refine ⟨a, cap, rfl, h1, h2, ?_⟩
  rcases h3 with h3 | ⟨b, off, rfl, hlt, hc⟩
  · exact .inl h3
  · by_cases h0 : 0 < zs.length
    · have hne : b ≠ mb := by
        rintro rfl
        obtain ⟨es, clock, ho⟩ := hM.obj
        have := hc 0 h0
        simp [World.cell?, ho] at this
      refine .inr ⟨b, off, rfl, Nat.lt_of_lt_of_le hlt hg.size, fun i hi => ?_⟩
      exact (World.cell?_of_block (w := w) (hg.block b hlt (by simpa using hne))).trans (hc i hi)
    · exact .inl (List.length_eq_zero_iff.1 (by omega))
theorem same_set {w : World} {b : Nat} {v : Value} {t : TypeId} (h : C1 w b v t) : w.setCell ⟨b, 0, none⟩ v = w := by
  have h1 : (w.setCell ⟨b, 0, none⟩ v).heap = w.heap := by
    apply Array.ext_getElem?
    intro i
    by_cases hi : i = b
    · subst hi; exact (h.set v).trans h.symm
    · exact Below.heap_setCell w _ v i (by simpa using hi)
  show { w with heap := (w.setCell ⟨b, 0, none⟩ v).heap } = w
  rw [h1]
set_option maxHeartbeats 3200000 in
set_option maxRecDepth 20000 in
theorem look2_ok (r m n j : Nat) (hv : Value) (w : World) (Bo Bl Bb Bf Bt mb N : Nat) (vb : Value) (L : List (Nat × Nat)) (h1 : m < r) (h1' : 0 < m) (h2 : r ≤ n) (h3 : n ≤ 5) (hj : j < fac n)
    (h : Rd w hv (poolN r n j)) (hM : MC w mb N L) (hN : N ≤ 100000) (hL : ∀ x, lk L x ≤ 100000)
    (ho : C1 w Bo (.int .i64 (outF r (r - m) : Nat)) 3) (hl : C1 w Bl (.int .i64 m) 3) (hb : C1 w Bb vb 25) (hbr : Rd w vb (castL (basesF r (r - m)))) (hf : C1 w Bf (.bool true) 4) (ht : C1 w Bt (.map (some mb)) 23) :
    Calls Try.prog 10 #[.agg #[.int .i64 r, .int .i64 n, hv], .pointer (some ⟨Bo, 0, none⟩), .pointer (some ⟨Bl, 0, none⟩), .pointer (some ⟨Bb, 0, none⟩), .pointer (some ⟨Bf, 0, none⟩), .pointer (some ⟨Bt, 0, none⟩)] w fun e w' => e = .returned (.tuple #[]) ∧ MC w' mb (N + outF r (r - m)) (ALx L r (r - m) n j (outF r (r - m))) ∧ w.grownBy w' (some mb) := by
  obtain ⟨a, k, rfl, hk1, hk2⟩ := h.slice
  obtain ⟨ab, kb, rfl, hkb1, hkb2⟩ := hbr.slice
  have hne1 := ho.ne hM
  have hne2 := hl.ne hM
  have hne3 := hb.ne hM
  have hne4 := hf.ne hM
  have hne5 := ht.ne hM
  have HE1 := Lib.hid hne1
  have HE2 := Lib.hid hne2
  have HE3 := Lib.hid hne3
  have HE4 := Lib.hid hne4
  have HE5 := Lib.hid hne5
  have HMl := Lib.hid hM.lt
  have hg := good_all n (by omega) r h2 (by omega) j hj
  unfold goodP at hg
  simp only [Bool.and_eq_true, List.all_eq_true, decide_eq_true_eq, beq_iff_eq] at hg
  obtain ⟨⟨g1, g2⟩, g3⟩ := hg
  have HG1 := Lib.hid g1
  have HG2 := Lib.hid g2
  have HG3 := Lib.hid g3
  have HPL : Hid ((poolN r n j).length = r) := by
    have := allL_len (r := r) (by omega) (castL (List.range n)) (castL (mixF j (iota1 n))) n
    show (allL r _ _ n).length = r
    omega
  have hO := out_le r (by omega) (r - m) (by omega)
  -- the world behind the parameter's box
  obtain ⟨wp, hwp⟩ : ∃ wp, w.alloc (.cells #[.int .i64 r, .int .i64 n, .slice a (poolN r n j).length k] 27) = wp := ⟨_, rfl⟩
  have hal : Below w.heap.size w wp := hwp ▸ (Below.refl _ _).alloc (Nat.le_refl _) _
  have HGA : Hid (w.grownBy wp none) := hwp ▸ World.grownBy_alloc w _ none
  have HPB : Hid (BX wp w.heap.size r n (.slice a (poolN r n j).length k)) := hwp ▸ BX.new w _ _ _
  have HPR := Lib.hid (h.below hal (Nat.le_refl _))
  have HM := Lib.hid (hM.kept hal hM.lt)
  have HBR := Lib.hid (hbr.below hal (Nat.le_refl _))
  have HO := Lib.hid (ho.kept hal ho.lt)
  have HLs := Lib.hid (hl.kept hal hl.lt)
  have HBb := Lib.hid (hb.kept hal hb.lt)
  have HF := Lib.hid (hf.kept hal hf.lt)
  have HT := Lib.hid (ht.kept hal ht.lt)
  have HLL := Lib.hid hL
  rw [HPL.out] at HPB HPR hwp hk1 ⊢
  rw [castL_len, basesF_len] at HBR HBb hkb1
  have HA0 : Hid (ALx L r (r - m) n j 0 = L) := rfl
  have HAS : Hid (∀ x, ALx L r (r - m) n j (x + 1) = bump (ALx L r (r - m) n j x) (keyS r (r - m) n j x) 1) := fun x => rfl
  have HALE : Hid (∀ x y, lk (ALx L r (r - m) n j x) y ≤ 100000 + x) := fun x y => ALx_le L r (r - m) n j y _ (hL y) x
  have hBo := ho.lt
  have hBl := hl.lt
  have hBb := hb.lt
  have hBf := hf.lt
  have hBt := ht.lt
  have hco := ho.cell
  rw [castL_len, basesF_len] at hb
  clear h hM hL hbr hal hl hb hf ht hne1 hne2 hne3 hne4 hne5 g1 g2 g3 ho
  obtain ⟨O, hOO⟩ : ∃ O, outF r (r - m) = O := ⟨_, rfl⟩
  rw [hOO] at hO HO hco ⊢
  clear hOO
  have hco2 := HO.out.cell
  clear hco
  obtain ⟨d, hd⟩ : ∃ d, r - m = d := ⟨_, rfl⟩
  have HD := Lib.hid hd
  rw [hd] at hkb1 HBb HBR HA0 HAS HALE ⊢
  clear hd
  have hrd : r = m + d := by have := HD.out; omega
  have HRD := Lib.hid hrd
  have HMX : Hid (∀ (x : Nat) X, x < 1000 → Rd X (.slice ab d kb) (castL (basesF r d)) → Calls Try.prog 12 #[.int .i64 x, .slice ab d kb] X fun e w' => Below X.heap.size X w' ∧ ∃ a2 k2, e = .returned (.slice a2 d k2) ∧ Rd w' (.slice a2 d k2) (castL (mixF x (basesF r d)))) := fun x X hx hr => by
    refine (mixed_ok x (basesF r d) _ X hr (by omega) (basesF_pos (by omega)) (by rw [basesF_len]; omega) (fun b hb => ?_)).mono ?_
    · unfold basesF at hb; rw [List.mem_map] at hb; obtain ⟨i, _, rfl⟩ := hb; omega
    · rintro e w' ⟨hb, v', rfl, ho⟩
      rw [basesF_len] at ho
      obtain ⟨a2, k2, rfl⟩ := own_slice ho
      exact ⟨hb, a2, k2, rfl, Rd.own ho⟩
  have HSMX : Hid (∀ (x : Nat) X a2 k2, x < 1000 → Rd X (.slice a r k) (poolN r n j) → Rd X (.slice a2 d k2) (castL (mixF x (basesF r d))) → Calls Try.prog 11 #[.agg #[.int .i64 r, .int .i64 n, .slice a r k], .int .i64 m, .slice a2 d k2] X fun e w' => Below X.heap.size X w' ∧ ∃ a3 k3, e = .returned (.tuple #[.agg #[.int .i64 m, .int .i64 n, .slice a3 m k3], .int .i64 0]) ∧ w'.ownsRow X.heap.size 3 1 (.slice a3 m k3) m ((castL (smN (poolNat r n j) (mixF x (basesF r d)) d)).map (Value.int .i64))) := fun x X a2 k2 hx hr1 hr2 => by
    have hm1 : (mixF x (basesF r d)).length = d := by rw [mixF_len, basesF_len]
    refine (sm_ok r n m _ _ (poolN r n j) _ X hr1 hr2 ⟨by omega, by omega, by omega, by omega, by rw [HPL.out]; omega⟩ (by omega) (by omega) ⟨by rw [HPL.out, castL_len, hm1]; omega, fun i hi => ?_⟩).mono ?_
    · rw [HPL.out] at hi ⊢
      have := mixF_lt (basesF r d) x i (by rw [basesF_len]; omega) (basesF_pos (by omega))
      rw [basesF_getD r d i (by omega)] at this
      rw [castL_getD]
      omega
    · rintro e w' ⟨hb, v', rfl, ho⟩
      rw [HPL.out, show r - m = d by omega, show r - d = m by omega, ← HG1.out, ← smN_cast] at ho
      obtain ⟨a3, k3, rfl⟩ := own_slice ho
      exact ⟨hb, a3, k3, rfl, ho⟩
  clear hrd
  go_enter Try.func10, Try.ntmps10
  go_wp2_with fail
  go_loopw [14] (fun xv wr => ∃ x : Nat, x ≤ O ∧ xv = .int .i64 x ∧ Hid (MC wr mb (N + x) (ALx L r d n j x)) ∧ Hid (wp.grownBy wr (some mb))) (fun xv _ => O - (intOf xv).toNat)
  case atStart => exact ⟨0, Nat.zero_le _, rfl, by rw [HA0.out]; exact HM.out, World.grownBy.refl _ _⟩
  case round =>
    obtain ⟨x, hx, rfl, HMx, HGx⟩ := hrel
    by_cases hxO : x < O
    · have hxi : (x : Int) < (O : Int) := by omega
      have HPx : Hid (BX wr w.heap.size r n (.slice a r k)) := (HGx.out.block _ HPB.out.lt (by have := HMl.out; simp; omega)).trans HPB.out
      have HPRx := Lib.hid (HPR.out.grown HM.out HGx.out)
      have HBRx := Lib.hid (HBR.out.grown HM.out HGx.out)
      have HLx := Lib.hid (HLs.out.grown HGx.out HE2.out)
      have HBx := Lib.hid (HBb.out.grown HGx.out HE3.out)
      have HFx := Lib.hid (HF.out.grown HGx.out HE4.out)
      have HTx := Lib.hid (HT.out.grown HGx.out HE5.out)
      have hsw : w.heap.size < wr.heap.size := HPx.out.lt
      have d0 := HPx.out.c0
      have d1 := HPx.out.c1
      have d2 := HPx.out.c2
      have dl := HLx.out.cell
      have db := HBx.out.cell
      have hx9 : x < 1000 := by omega
      go_wp2_with fail
      have SB : Hid (∀ w', Below wr.heap.size wr w' → w'.cell? ⟨w.heap.size, 0, none⟩ = some (.int .i64 r) ∧ w'.cell? ⟨w.heap.size, 1, none⟩ = some (.int .i64 n) ∧ w'.cell? ⟨w.heap.size, 2, none⟩ = some (.slice a r k) ∧ w'.cell? ⟨Bl, 0, none⟩ = some (.int .i64 m) ∧ w'.cell? ⟨Bb, 0, none⟩ = some (.slice ab d kb)) := fun w' hb => ⟨(World.cell?_of_block (hb.block _ hsw)).trans d0, (World.cell?_of_block (hb.block _ hsw)).trans d1, (World.cell?_of_block (hb.block _ hsw)).trans d2, (World.cell?_of_block (hb.block _ HLx.out.lt)).trans dl, (World.cell?_of_block (hb.block _ HBx.out.lt)).trans db⟩
      go_region_held3 (fun w' => w'.cell? ⟨w.heap.size, 0, none⟩ = some (.int .i64 r) ∧ w'.cell? ⟨w.heap.size, 1, none⟩ = some (.int .i64 n) ∧ w'.cell? ⟨w.heap.size, 2, none⟩ = some (.slice a r k) ∧ w'.cell? ⟨Bl, 0, none⟩ = some (.int .i64 m) ∧ w'.cell? ⟨Bb, 0, none⟩ = some (.slice ab d kb)) (first | exact ⟨d0, d1, d2, dl, db⟩ | exact SB.out _ (((Below.refl _ _).alloc (Nat.le_refl _) _).drew) | exact SB.out _ (by assumption) | exact SB.out _ (hB2.alloc hB2.size _) | exact SB.out _ (hB3.alloc hB3.size _) | exact SB.out _ (((hB3.setCell (by first | exact Nat.le_refl _ | exact hB2.size) _).setCell (by first | exact Nat.le_refl _ | exact hB2.size) _).setCell (by first | exact Nat.le_refl _ | exact hB2.size) _)) (first
        | (go_at_call 12; (with_reducible refine (HMX.out x wr.drew hx9 HBRx.out.drew).mono ?_); rintro e w2 ⟨hb2, a2, k2, rfl, hr2⟩; (have hB2 : Below wr.heap.size wr w2 := undrew hb2); (have hP2 := HPRx.out.below hB2 (Nat.le_refl _)))
        | (go_at_call 12; (with_reducible refine (HMX.out x (wr.alloc (.cells #[.int .i64 0, .int .i64 0, .slice none 0 0] 27)).drew hx9 (HBRx.out.alloc _).drew).mono ?_); rintro e w2 ⟨hb2, a2, k2, rfl, hr2⟩; (have hB2 : Below wr.heap.size wr w2 := ((Below.refl wr.heap.size wr).alloc (Nat.le_refl _) _).trans ((undrew hb2).mono (by simp))); (have hP2 := HPRx.out.below hB2 (Nat.le_refl _)); (have hZ2 := BX.below (w := (wr.alloc (.cells #[.int .i64 0, .int .i64 0, .slice none 0 0] 27)).drew) (BX.new wr 0 0 (.slice none 0 0)) hb2 (by simp)))
        | (go_at_call 11; (with_reducible refine (HSMX.out x w2 a2 k2 hx9 hP2 hr2).mono ?_); rintro e w3 ⟨hb3, a3, k3, rfl, ho3⟩; (have hB3 : Below wr.heap.size wr w3 := hB2.trans (hb3.mono hB2.size)); (have hZ3 := hZ2.below hb3 hZ2.lt); (have e0 := hZ3.c0); (have e1 := hZ3.c1); (have e2 := hZ3.c2); (have f0 := hZ3.fr 0); (have f1 := hZ3.fr 1); (have f2 := hZ3.fr 2))
        | (go_at_call 11; (with_reducible refine (HSMX.out x w2 a2 k2 hx9 hP2 hr2).mono ?_); rintro e w3 ⟨hb3, a3, k3, rfl, ho3⟩; (have hB3 : Below wr.heap.size wr w3 := hB2.trans (hb3.mono hB2.size)))
        | (go_at_call 11; (with_reducible refine (HSMX.out x (w2.alloc (.cells #[.int .i64 0, .int .i64 0, .slice none 0 0] 27)) a2 k2 hx9 (hP2.alloc _) (hr2.alloc _)).mono ?_); rintro e w3 ⟨hb3, a3, k3, rfl, ho3⟩; (have hB3 : Below wr.heap.size wr w3 := (hB2.alloc hB2.size _).trans (hb3.mono (by simp; exact Nat.le_succ_of_le hB2.size))); (have hZ3 := (BX.new w2 0 0 (.slice none 0 0)).below hb3 (by simp)); (have e0 := hZ3.c0); (have e1 := hZ3.c1); (have e2 := hZ3.c2); (have f0 := hZ3.fr 0); (have f1 := hZ3.fr 1); (have f2 := hZ3.fr 2)))
      all_goals
          first
            | (have hZ : BX w3 w2.heap.size 0 0 (.slice none 0 0) := hZ3
               have hQw : wr.heap.size ≤ w2.heap.size := by first | exact Nat.le_refl _ | exact hB2.size
               have HQ : Hid (BX (((w3.setCell ⟨w2.heap.size, 0, none⟩ (.int .i64 m)).setCell ⟨w2.heap.size, 1, none⟩ (.int .i64 n)).setCell ⟨w2.heap.size, 2, none⟩ (.slice a3 m k3)) w2.heap.size m n (.slice a3 m k3)) := ((hZ.set0 _).set1 _).set2 _
               have HQR : Hid (Rd (((w3.setCell ⟨w2.heap.size, 0, none⟩ (.int .i64 m)).setCell ⟨w2.heap.size, 1, none⟩ (.int .i64 n)).setCell ⟨w2.heap.size, 2, none⟩ (.slice a3 m k3)) (.slice a3 m k3) (castL (smN (poolNat r n j) (mixF x (basesF r d)) d))) := Rd.own (own_store (own_store (own_store ho3 (by first | exact hZ2.lt | (simp; done)) _) (by first | exact hZ2.lt | (simp; done)) _) (by first | exact hZ2.lt | (simp; done)) _)
               have HQB : Hid (Below wr.heap.size wr (((w3.setCell ⟨w2.heap.size, 0, none⟩ (.int .i64 m)).setCell ⟨w2.heap.size, 1, none⟩ (.int .i64 n)).setCell ⟨w2.heap.size, 2, none⟩ (.slice a3 m k3))) := ((hB3.setCell hQw _).setCell hQw _).setCell hQw _
               clear hZ hZ3 e0 e1 e2 f0 f1 f2 ho3 hb3 hB3
               generalize (((w3.setCell ⟨w2.heap.size, 0, none⟩ (.int .i64 m)).setCell ⟨w2.heap.size, 1, none⟩ (.int .i64 n)).setCell ⟨w2.heap.size, 2, none⟩ (.slice a3 m k3)) = wq at *)
            | (have hZ : BX w3 wr.heap.size 0 0 (.slice none 0 0) := hZ3
               have hQw : wr.heap.size ≤ wr.heap.size := by first | exact Nat.le_refl _ | exact hB2.size
               have HQ : Hid (BX (((w3.setCell ⟨wr.heap.size, 0, none⟩ (.int .i64 m)).setCell ⟨wr.heap.size, 1, none⟩ (.int .i64 n)).setCell ⟨wr.heap.size, 2, none⟩ (.slice a3 m k3)) wr.heap.size m n (.slice a3 m k3)) := ((hZ.set0 _).set1 _).set2 _
               have HQR : Hid (Rd (((w3.setCell ⟨wr.heap.size, 0, none⟩ (.int .i64 m)).setCell ⟨wr.heap.size, 1, none⟩ (.int .i64 n)).setCell ⟨wr.heap.size, 2, none⟩ (.slice a3 m k3)) (.slice a3 m k3) (castL (smN (poolNat r n j) (mixF x (basesF r d)) d))) := Rd.own (own_store (own_store (own_store ho3 (by first | exact hZ2.lt | (simp; done)) _) (by first | exact hZ2.lt | (simp; done)) _) (by first | exact hZ2.lt | (simp; done)) _)
               have HQB : Hid (Below wr.heap.size wr (((w3.setCell ⟨wr.heap.size, 0, none⟩ (.int .i64 m)).setCell ⟨wr.heap.size, 1, none⟩ (.int .i64 n)).setCell ⟨wr.heap.size, 2, none⟩ (.slice a3 m k3))) := ((hB3.setCell hQw _).setCell hQw _).setCell hQw _
               clear hZ hZ3 e0 e1 e2 f0 f1 f2 ho3 hb3 hB3
               generalize (((w3.setCell ⟨wr.heap.size, 0, none⟩ (.int .i64 m)).setCell ⟨wr.heap.size, 1, none⟩ (.int .i64 n)).setCell ⟨wr.heap.size, 2, none⟩ (.slice a3 m k3)) = wq at *)
            | (have HQ : Hid (BX (w3.alloc (.cells #[.int .i64 m, .int .i64 n, .slice a3 m k3] 27)) w3.heap.size m n (.slice a3 m k3)) := BX.new _ _ _ _
               have HQR : Hid (Rd (w3.alloc (.cells #[.int .i64 m, .int .i64 n, .slice a3 m k3] 27)) (.slice a3 m k3) (castL (smN (poolNat r n j) (mixF x (basesF r d)) d))) := (Rd.own ho3).alloc _
               have HQB : Hid (Below wr.heap.size wr (w3.alloc (.cells #[.int .i64 m, .int .i64 n, .slice a3 m k3] 27))) := hB3.alloc hB3.size _
               clear ho3 hb3 hB3
               generalize (w3.alloc (.cells #[.int .i64 m, .int .i64 n, .slice a3 m k3] 27)) = wq at *)
          clear SB d0 d1 d2 dl db hb2 hB2 hP2 hr2
          try clear hZ2
          have HFq := Lib.hid (HFx.out.kept HQB.out HFx.out.lt)
          have HTq := Lib.hid (HTx.out.kept HQB.out HTx.out.lt)
          have HMq := Lib.hid (HMx.out.kept HQB.out HMx.out.lt)
          have HSF : Hid (wq.setCell ⟨Bf, 0, none⟩ (.bool true) = wq) := same_set HFq.out
          have HFC := HFq.out.cell
          have HFF := HFq.out.free
          have e2 := HQ.out.c2
          have hsf := HSF.out
          have HKL : Hid ((smN (poolNat r n j) (mixF x (basesF r d)) d).length = m) := by
            have := (HQR.out.slice)
            obtain ⟨_, _, he, -⟩ := this
            show _ = _
            rw [castL_len] at he
            injection he with _ he
            exact he.symm
          have HKM : Hid (∀ z ∈ smN (poolNat r n j) (mixF x (basesF r d)) d, z < 20) := fun z hz => HG2.out z (smN_mem _ z hz)
          have HKY : Hid (keyS r d n j x = setN (smN (poolNat r n j) (mixF x (basesF r d)) d) 0) := rfl
          have HSt0 : Hid (setN ((smN (poolNat r n j) (mixF x (basesF r d)) d).take 0) 0 = 0) := rfl
          have HASx := HAS.out x
          have HALx := HALE.out x
          have HASX := Lib.hid HASx
          have HALX := Lib.hid HALx
          clear HASx HALx
          generalize smN (poolNat r n j) (mixF x (basesF r d)) d = zs at *
          have hm20 : m ≤ 20 := by have := HRD.out; omega
          go_wp2_with fail
          go_loop [34, 10] (fun iv sv => ∃ i : Nat, i ≤ m ∧ iv = .int .i64 i ∧ sv = .int .i64 (setN (zs.take i) 0 : Nat)) (fun iv _ => m - (intOf iv).toNat)
          case atStart => exact ⟨0, Nat.zero_le _, rfl, by rw [HSt0.out]; rfl⟩
          case round =>
            obtain ⟨i, him, rfl, rfl⟩ := hrel
            by_cases hlt : i < m
            · obtain ⟨b, off, rfl, hb, cl⟩ := HQR.out.at hlt
              rw [castL_getD] at cl
              have hiz : i < zs.length := by rw [HKL.out]; exact hlt
              have hz20 : zs.getD i 0 < 20 := HKM.out _ (by
                rw [List.getD_eq_getElem?_getD, List.getElem?_eq_getElem hiz]; exact List.getElem_mem _)
              have HST := Lib.hid (setN_take zs 0 i hiz)
              have hs := setN_lt (zs.take i) 0 (fun z hz => HKM.out z (List.mem_of_mem_take hz)) (by decide)
              generalize zs.getD i 0 = z at *
              generalize setN (zs.take i) 0 = s at *
              clear hiz
              go_wp2_with fail
              refine ⟨⟨i + 1, by omega, by go_num, ?_⟩, by simp [intOf]; omega⟩
              have h2 : (2 : Int) ^ z = ((2 ^ z : Nat) : Int) := by rw [Int.natCast_pow]; rfl
              have h3 : 2 ^ z < 1048576 := Nat.pow_lt_pow_right (by omega) hz20
              have hs' : s < 1048576 := hs
              rw [h2, HST.out]
              clear hs h2 HST
              generalize (2 ^ z : Nat) = t at *
              have h4 : wrap64 (t : Int) = (t : Int) := by
                unfold wrap64
                omega
              rw [h4, or64s s t hs' h3]
            · obtain rfl : i = m := by omega
              have hs : setN zs 0 < 1048576 := setN_lt zs 0 (fun z hz => HKM.out z hz) (by decide)
              have HTk : Hid (zs.take i = zs) := List.take_of_length_le (by rw [HKL.out]; exact Nat.le_refl _)
              rw [HTk.out]
              obtain ⟨s, hsn⟩ : ∃ s, setN zs 0 = s := ⟨_, rfl⟩
              have HSN := Lib.hid hsn
              rw [hsn] at hs ⊢
              clear hsn
              obtain ⟨D, hD1, hD2, hD3, hD4, hD5⟩ := HMq.out
              have HD2 := Lib.hid hD2
              have HD3 := Lib.hid hD3
              have HD4 := Lib.hid hD4
              have HD5 := Lib.hid hD5
              have HD1 := Lib.hid hD1
              have hlk := HALX.out (s : Int)
              have hc := HTq.out.cell
              have hkey : keyOf Try.prog 3 (.int .i64 s) = some (.int .i64 s) := keyOf_int_mk Try.underlying3 (Go.WalkArith.wf_i64 (by omega))
              have HKEY := Lib.hid hkey
              clear hD1 hD2 hD3 hD4 hD5 hkey
              generalize ALx L r d n j x = Lx at *
              go_wp2_with (at_lookup; go_must (refine wpList_lookup_own_int _ rfl _ _ 23 rfl 3 3 .i64 key3 Try.underlying23 Try.underlying3 (zero3 _) mb (N + x) D rfl HD1.out _ _ rfl HKEY.out ?_))
              intro cc hat hwf
              have hcc : cc = lk Lx s := by
                have := HD3.out s
                rw [hat] at this
                simpa using this
              subst hcc
              clear hat hwf
              go_wp2_with (at_mapUpdate; go_must (refine wpList_mapUpdate_own _ rfl _ _ _ 23 rfl 3 3 key3 Try.underlying23 _ mb (N + x) D rfl HD1.out (by unfold maxLen; omega) _ _ _ rfl rfl HKEY.out _ [] (plainElem_int Try.underlying3 (Go.WalkArith.wf_i64 (by omega))) ?_))
              intro w9 ho9 hg9
              have HM9 : Hid (MC w9 mb (N + (x + 1)) (ALx L r d n j (x + 1))) := by
                show MC _ _ _ _
                rw [HASX.out, HKY.out, HSN.out]
                exact MC.put HD2.out HD3.out HD4.out HD5.out (by rw [Int.natCast_add]; exact ho9)
              have HG9 : Hid (wp.grownBy w9 (some mb)) := grown_trans (HGx.out) (grown_trans ⟨HQB.out.os, HQB.out.tape, HQB.out.output, HQB.out.size, fun i hi _ => HQB.out.block i hi⟩ hg9)
              clear ho9 hg9
              go_wp2_with fail
              go_roundw
              case rel => exact ⟨x + 1, by omega, by go_num, HM9.out, HG9.out⟩
              case measure => simp [intOf]; omega
    · obtain rfl : x = O := by omega
      have HGw : Hid (w.grownBy wr (some mb)) := grown_trans ⟨HGA.out.os, HGA.out.tape, HGA.out.output, HGA.out.size, fun i hi _ => HGA.out.block i hi (by simp)⟩ HGx.out
      go_wp2_with fail
      go_end0
      exact ⟨rfl, HMx.out, HGw.out⟩
end Go.Proofs.Ytimknmofcnhbpaa
