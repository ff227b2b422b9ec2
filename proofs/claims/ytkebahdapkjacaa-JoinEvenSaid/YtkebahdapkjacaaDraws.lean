/- What 'draws' does to the table of counts. Condition: all draws are as they must be. -/
import Derived.Test.YtkebahdapkjacaaEvenL
import Derived.Deep.RegionHeld3
import Derived.Deep.DeepCutAuto
import Derived.Deep.CutRange
set_option linter.unusedSimpArgs false
set_option linter.unusedVariables false
namespace Go.Proofs.Ytkebahdapkjacaa
open Go.RowKit Go.Maps
def waysW (all : Nat) : Nat → Nat
  | 0 => 1
  | k + 1 => waysW all k * (all - k)
theorem ways_eq : ∀ all, all ≤ 5 → ∀ k, k ≤ 2 → k ≤ all → prodN (basesJ all k) = waysW all k ∧ waysW all k ≤ 20 := by decide
theorem lk_AJj (L : List (Nat × Nat)) (room n m : Nat) (x y : List Int) (i : Nat) (z : Int) (B K : Nat) (h : lk L z ≤ B) (hK : 720720 / manyJ room n m x y i ≤ K) : ∀ j, lk (AJj L room n m x y i j) z ≤ B + j * K
  | 0 => by simpa [AJj] using h
  | j + 1 => by
    have h1 := lk_AJj L room n m x y i z B K h hK j
    show lk (bump _ _ (720720 / manyJ room n m x y i)) z ≤ _
    rw [lk_bump, Nat.add_mul, Nat.one_mul]
    generalize 720720 / manyJ room n m x y i = q at *
    split
    · rename_i e; rw [← e]; omega
    · omega
theorem lk_AJi (L : List (Nat × Nat)) (room n m : Nat) (x y : List Int) (z : Int) (B K : Nat) (h : lk L z ≤ B) (hK : ∀ i, 720720 / manyJ room n m x y i ≤ K) : ∀ i, (∀ j, j < i → manyJ room n m x y j ≤ 25) → lk (AJi L room n m x y i) z ≤ B + i * (25 * K)
  | 0, _ => by simpa [AJi] using h
  | i + 1, hf => by
    have h1 := lk_AJi L room n m x y z B K h hK i (fun j hj => hf j (by omega))
    have h2 := lk_AJj (AJi L room n m x y i) room n m x y i z _ K h1 (hK i) (manyJ room n m x y i)
    have h4 : manyJ room n m x y i * K ≤ 25 * K := Nat.mul_le_mul_right _ (hf i (by omega))
    show lk (AJj _ _ _ _ _ _ _ _) z ≤ _
    rw [Nat.add_mul, Nat.one_mul]
    omega
theorem MC.obj {w : World} {b n : Nat} {L} (h : MC w b n L) : ∃ es clock, w.heap[b]? = some (.map es clock) := by
  obtain ⟨D, ⟨es, clock, h1, _⟩, _⟩ := h
  exact ⟨es, clock, h1⟩
theorem Rd.grown' {w w' : World} {mb n : Nat} {v : Value} {zs : List Int} {L} (h : Rd w v zs) (hM : MC w mb n L) (hg : w.grownBy w' (some mb)) : Rd w' v zs := by
  obtain ⟨a, cap, rfl, h1, h2, h3⟩ := h
  refine ⟨a, cap, rfl, h1, h2, ?_⟩
  rcases h3 with h3 | ⟨b, off, rfl, hlt, hc⟩
  · exact .inl h3
  · by_cases h0 : 0 < zs.length
    · have hne : b ≠ mb := by
        rintro rfl
        obtain ⟨es, clock, ho⟩ := hM.obj
        have := hc 0 h0
        simp [World.cell?, ho] at this
      refine .inr ⟨b, off, rfl, Nat.lt_of_lt_of_le hlt hg.size, fun i hi => ?_⟩
      exact (World.cell?_of_block (w := w) (hg.block b hlt (by simpa using hne))).trans (hc i hi)
    · exact .inl (List.length_eq_zero_iff.1 (by omega))
theorem mixF_len : ∀ (bs : List Nat) (x : Nat), (mixF x bs).length = bs.length
  | [], _ => rfl
  | b :: r, x => by simp [mixF, mixF_len r]
theorem mixF_lt : ∀ (bs : List Nat) (x i : Nat), i < bs.length → (∀ b ∈ bs, 0 < b) → (mixF x bs).getD i 0 < bs.getD i 0
  | [], _, _, h, _ => absurd h (Nat.not_lt_zero _)
  | b :: r, x, 0, _, hb => by simpa [mixF] using Nat.mod_lt x (hb b List.mem_cons_self)
  | b :: r, x, i + 1, h, hb => by
    simp only [mixF, List.getD_cons_succ]
    exact mixF_lt r _ i (by simpa using h) (fun c hc => hb c (List.mem_cons_of_mem _ hc))
theorem wf_l (l k : Nat) (h : l ≤ 2000000000000) (h2 : k ≤ 720720) : (Lit.int .i64 ((l : Int) + (k : Int))).wf = true := Go.WalkArith.wf_i64 (by omega)
theorem wrap_l (l k : Nat) (h : l ≤ 2000000000000) (h2 : k ≤ 720720) : IntKind.i64.wrap ((l : Int) + (k : Int)) = (l : Int) + (k : Int) := by rw [IntKind.wrap_i64]; omega
theorem wrap_s (k : Nat) (h : k ≤ 720720) : wrap64 (k : Int) = (k : Int) := by unfold wrap64; omega
theorem wrap_s2 (k : Nat) (h : k ≤ 720720) : IntKind.i64.wrap (k : Int) = (k : Int) := by rw [IntKind.wrap_i64]; omega
theorem prodN_snoc : ∀ (l : List Nat) (b : Nat), prodN (l ++ [b]) = prodN l * b
  | [], b => by simp [prodN]
  | d :: r, b => by
    show d * prodN (r ++ [b]) = d * prodN r * b
    rw [prodN_snoc r b, Nat.mul_assoc]
set_option maxHeartbeats 6400000 in
set_option maxRecDepth 20000 in
theorem draws_ok (room n m : Nat) (x y : List Int) (ax ay : Option Addr) (nx ny kx ky : Nat) (w : World) (mb N B : Nat) (L : List (Nat × Nat)) (h1 : 1 ≤ room) (h2 : room ≤ 2) (h3 : n + m ≤ 5) (h4 : room ≤ n + m) (hx : Rd w (.slice ax nx kx) x) (hy : Rd w (.slice ay ny ky) y) (hxl : x.length = nx) (hyl : y.length = ny)
    (hxn : nx = min room n) (hyn : ny = min room m) (hM : MC w mb N L) (hN : N ≤ 1000000) (hL : ∀ z, lk L z ≤ B) (hB : B ≤ 1000000000000) (hf : fineXY room n m x y = true) :
    Calls Try.prog 8 #[.agg #[.int .i64 room, .int .i64 n, .slice ax nx kx], .agg #[.int .i64 room, .int .i64 m, .slice ay ny ky], .map (some mb)] w fun e w' => e = .returned (.bool true) ∧ MC w' mb (N + 500) (AJi L room n m x y (prodN (basesJ (n + m) room))) ∧ w.grownBy w' (some mb) := by
  have HF0 : Hid (∀ i, i < prodN (basesJ (n + m) room) → fineI room n m x y i = true) := fun i hi => by
    unfold fineXY at hf
    rw [List.all_eq_true] at hf
    exact hf i (List.mem_range.2 hi)
  have HX := Lib.hid hx
  have HY := Lib.hid hy
  have HXL := Lib.hid hxl
  have HYL := Lib.hid hyl
  have HM := Lib.hid hM
  have HL := Lib.hid hL
  have HML := Lib.hid hM.lt
  have hW := ways_eq (n + m) h3 room h2 h4
  have HWE := Lib.hid hW.1
  have HWL := Lib.hid hW.2
  have HWS : Hid (∀ k, waysW (n + m) (k + 1) = waysW (n + m) k * (n + m - k)) := fun k => rfl
  have HWB : Hid (∀ k, k ≤ room → waysW (n + m) k ≤ 20) := fun k hk => (ways_eq (n + m) h3 k (by omega) (by omega)).2
  have HBS : Hid (∀ k, castL (basesJ (n + m) (k + 1)) = castL (basesJ (n + m) k) ++ [((n + m - k : Nat) : Int)]) := fun k => by
    show _ = _
    unfold basesJ; rw [List.range_succ, List.map_append, castL_app]; rfl
  obtain ⟨i3, hi3, hz0, hz1, hz2⟩ := info_parts Try.info3
  have hmin : min (room : Int) ((n : Int) + (m : Int)) = (room : Int) := by omega
  have HXN := Lib.hid hxn
  have HYN := Lib.hid hyn
  have hnx : nx ≤ 2 := by omega
  have hny : ny ≤ 2 := by omega
  clear hf hx hy hxl hyl hM hL hW hxn hyn
  have HB0 : Hid (Below w.heap.size w ((w.alloc (.cells #[.int .i64 room, .int .i64 n, .slice ax nx kx] 28)).alloc (.cells #[.int .i64 room, .int .i64 m, .slice ay ny ky] 28))) := ((Below.refl _ _).alloc (Nat.le_refl _) _).alloc (by simp) _
  have HA0 : Hid (BX ((w.alloc (.cells #[.int .i64 room, .int .i64 n, .slice ax nx kx] 28)).alloc (.cells #[.int .i64 room, .int .i64 m, .slice ay ny ky] 28)) w.heap.size room n (.slice ax nx kx)) := (BX.new w _ _ _).below ((Below.refl _ _).alloc (Nat.le_refl _) _) (BX.new w _ _ _).lt
  have HC0 : Hid (BX ((w.alloc (.cells #[.int .i64 room, .int .i64 n, .slice ax nx kx] 28)).alloc (.cells #[.int .i64 room, .int .i64 m, .slice ay ny ky] 28)) (w.heap.size + 1) room m (.slice ay ny ky)) := by
    have := BX.new (w.alloc (.cells #[.int .i64 room, .int .i64 n, .slice ax nx kx] 28)) room m (.slice ay ny ky)
    show BX _ _ _ _ _
    simpa using this
  go_enter Try.func8, Try.ntmps8
  go_wp2_with fail
  generalize (w.alloc (.cells #[.int .i64 room, .int .i64 n, .slice ax nx kx] 28)).alloc (.cells #[.int .i64 room, .int .i64 m, .slice ay ny ky] 28) = wz at *
  go_loopw [37, 10, 9] (fun kv bv av wr => ∃ k a : Nat, k ≤ room ∧ kv = .int .i64 k ∧ av = .int .i64 a ∧ a ≤ 20 ∧ Hid (a = waysW (n + m) k) ∧ Hid (Below wz.heap.size wz wr) ∧ Hid (wr.ownsRow wz.heap.size 3 1 bv k ((castL (basesJ (n + m) k)).map (Value.int .i64)))) (fun kv _ _ _ => room - (intOf kv).toNat)
  case atStart => exact ⟨0, 1, by omega, rfl, rfl, by decide, rfl, Below.refl _ _, World.ownsRow_nil _ _ _ _⟩
  case round =>
    obtain ⟨k, a, hkr, rfl, rfl, ha, HA, HB, HO⟩ := hrel
    by_cases hlt : k < room
    · have hkk : (k : Int) < room := by omega
      have hws := HWS.out k
      rw [← HA.out] at hws
      have hwb := HWB.out (k + 1) (by omega)
      rw [hws] at hwb
      have HWX := Lib.hid hws
      obtain ⟨d, hd⟩ : ∃ d : Nat, n + m - k = d := ⟨_, rfl⟩
      have HBX := HBS.out k
      rw [hd] at HBX hwb HWX
      have HBX' := Lib.hid HBX
      have hdd : (n : Int) + (m : Int) - (k : Int) = (d : Int) := by omega
      obtain ⟨p, hp⟩ : ∃ p : Nat, a * d = p := ⟨_, rfl⟩
      rw [hp] at hwb HWX
      have hpp : (a : Int) * (d : Int) = (p : Int) := by rw [← hp]; simp
      have hs2 := HB.out.size
      clear HBX hws hp hd
      go_wp2_with (at_builtin; go_must (refine push rfl _ _ 26 rfl wz.heap.size 3 i3 (.int .i64 0) 8 Try.underlying26 hi3 hz0 hz1 hz2 rfl _ k ((castL (basesJ (n + m) k)).map (Value.int .i64)) rfl HO.out (.int .i64 d) wr.heap.size rfl rfl rfl (by decide) (by omega) hs2 ?_))
      intro v2 w2 ho2 hg2
      have HB2 := Lib.hid (grown_below hg2 HO.out HB.out (Nat.le_refl _) hs2)
      have HO2 : Hid (w2.ownsRow wz.heap.size 3 1 v2 (k + 1) ((castL (basesJ (n + m) (k + 1))).map (Value.int .i64))) := by rw [HBX'.out, List.map_append]; exact ho2
      clear ho2 hg2
      go_wp2_with fail
      go_roundw
      case rel => exact ⟨k + 1, p, by omega, by go_num, rfl, hwb, HWX.out.symm, HB2.out, HO2.out⟩
      case measure => simp [intOf]; omega
    · obtain rfl : k = room := by omega
      obtain ⟨ab, kb, rfl⟩ := own_slice HO.out
      have HAW : Hid (a = prodN (basesJ (n + m) k)) := HA.out.trans HWE.out.symm
      have HBSL : Hid ((basesJ (n + m) k).length = k) := by show _ = _; simp [basesJ]
      have HBSP : Hid (∀ b ∈ basesJ (n + m) k, 0 < b ∧ b ≤ 1000) := fun b hb => by
        unfold basesJ at hb; rw [List.mem_map] at hb
        obtain ⟨i, hi, rfl⟩ := hb
        have := List.mem_range.1 hi
        omega
      have HBSG : Hid (∀ q, q < k → (basesJ (n + m) k).getD q 0 = n + m - q) := fun q hq => by
        unfold basesJ; rw [List.getD_eq_getElem?_getD, List.getElem?_map, List.getElem?_range hq]; rfl
      obtain ⟨wq, rfl⟩ : ∃ wq : World, wq = wr := ⟨_, rfl⟩
      have hzq := HB.out.size
      have HMq := Lib.hid ((HM.out.kept HB0.out HML.out).kept HB.out (HM.out.kept HB0.out HML.out).lt)
      have HAq := Lib.hid (HA0.out.below HB.out HA0.out.lt)
      have HCq := Lib.hid (HC0.out.below HB.out HC0.out.lt)
      have HBq := Lib.hid (HB0.out.trans (HB.out.mono HB0.out.size))
      have HXq := Lib.hid (HX.out.below HBq.out (Nat.le_refl _))
      have HYq := Lib.hid (HY.out.below HBq.out (Nat.le_refl _))
      have HRq := Lib.hid (Rd.own HO.out)
      clear hzq HB0 HA0 HC0 HB HO HM
      rw [← HAW.out] at HWE HF0
      go_wp2_with fail
      go_loopw [53] (fun iv wr => ∃ i : Nat, i ≤ a ∧ iv = .int .i64 i ∧ Hid (MC wr mb (N + i * 25) (AJi L k n m x y i)) ∧ Hid (wq.grownBy wr (some mb))) (fun iv _ => a - (intOf iv).toNat)
      case atStart => exact ⟨0, Nat.zero_le _, rfl, HMq.out, World.grownBy.refl _ _⟩
      case round =>
        obtain ⟨i, hia, rfl, HMi, HGi⟩ := hrel
        by_cases hilt : i < a
        · have hii : (i : Int) < a := by omega
          have HFI := Lib.hid (HF0.out i hilt)
          have HAi : Hid (BX wr w.heap.size k n (.slice ax nx kx)) := (HGi.out.block _ HAq.out.lt (by have := HML.out; simp; omega)).trans HAq.out
          have HCi : Hid (BX wr (w.heap.size + 1) k m (.slice ay ny ky)) := (HGi.out.block _ HCq.out.lt (by have := HML.out; simp; omega)).trans HCq.out
          have HXi := Lib.hid (HXq.out.grown' HMq.out HGi.out)
          have HYi := Lib.hid (HYq.out.grown' HMq.out HGi.out)
          have HRi := Lib.hid (HRq.out.grown' HMq.out HGi.out)
          go_wp2_with fail
          refine (mixed_ok i (basesJ (n + m) k) _ _ HRi.out (by omega) (fun b hb => (HBSP.out b hb).1) (by rw [HBSL.out]; omega) (fun b hb => (HBSP.out b hb).2)).mono ?_
          rintro e w2 ⟨hb2, v2, rfl, ho2⟩
          rw [HBSL.out] at ho2
          obtain ⟨aw, kw, rfl⟩ := own_slice ho2
          have HB2 := Lib.hid hb2
          have HRw := Lib.hid (Rd.own ho2)
          have HA2 := Lib.hid (HAi.out.below hb2 HAi.out.lt)
          have HC2 := Lib.hid (HCi.out.below hb2 HCi.out.lt)
          have a1 := HA2.out.c1
          have a2 := HA2.out.c2
          have b1 := HC2.out.c1
          have b2 := HC2.out.c2
          have hsa : w.heap.size < w2.heap.size := HA2.out.lt
          have hsb : w.heap.size + 1 < w2.heap.size := HC2.out.lt
          clear hb2 ho2
          go_wp2_with fail
          have HHl : Hid (((w2.alloc (.cells #[.int .i64 n, .int .i64 m] 3)).alloc (.cells #[.int .i64 nx, .int .i64 ny] 3)).heap[w2.heap.size]? = some (.cells #[.int .i64 n, .int .i64 m] 3 (0, 0))) := (Below.heap_alloc _ _ _ (by simp)).trans (heap_alloc_new w2 _)
          have HHh : Hid (((w2.alloc (.cells #[.int .i64 n, .int .i64 m] 3)).alloc (.cells #[.int .i64 nx, .int .i64 ny] 3)).heap[w2.heap.size + 1]? = some (.cells #[.int .i64 nx, .int .i64 ny] 3 (0, 0))) := by
            have := heap_alloc_new (w2.alloc (.cells #[.int .i64 n, .int .i64 m] 3)) (.cells #[.int .i64 nx, .int .i64 ny] 3)
            show _ = _
            simpa using this
          have HB3 : Hid (Below w2.heap.size w2 ((w2.alloc (.cells #[.int .i64 n, .int .i64 m] 3)).alloc (.cells #[.int .i64 nx, .int .i64 ny] 3))) := ((Below.refl _ _).alloc (Nat.le_refl _) _).alloc (by simp) _
          have HS3 : Hid (w2.heap.size + 2 ≤ ((w2.alloc (.cells #[.int .i64 n, .int .i64 m] 3)).alloc (.cells #[.int .i64 nx, .int .i64 ny] 3)).heap.size) := by show _ ≤ _; simp
          have HRw3 := Lib.hid (HRw.out.below HB3.out (Nat.le_refl _))
          have HWL2 : Hid ((mixF i (basesJ (n + m) k)).length = k) := by show _ = _; rw [mixF_len, HBSL.out]
          have HWG : Hid (∀ q, q < k → (mixF i (basesJ (n + m) k)).getD q 0 < n + m - q) := fun q hq => by
            have := mixF_lt (basesJ (n + m) k) i q (by rw [HBSL.out]; exact hq) (fun b hb => (HBSP.out b hb).1)
            rwa [HBSG.out q hq] at this
          have HMY : Hid (manyJ k n m x y i = prodN (ownsN n m nx ny (mixF i (basesJ (n + m) k)))) := by
            show _ = _
            unfold manyJ; rw [HXL.out, HYL.out]
          have hfi := HFI.out
          unfold fineI at hfi
          simp only [Bool.and_eq_true, decide_eq_true_eq, List.all_eq_true, List.mem_range] at hfi
          obtain ⟨⟨⟨fi1, fi2⟩, fi3⟩, fi4⟩ := hfi
          rw [HXL.out, HYL.out] at fi3
          have HOW : Hid (∀ b ∈ ownsN n m nx ny (mixF i (basesJ (n + m) k)), 0 < b ∧ b ≤ 5) := fi3
          have HGJ := Lib.hid fi4
          have HM25 := Lib.hid fi2
          have HM1 := Lib.hid fi1
          clear fi1 fi2 fi3 fi4 a1 a2 b1 b2
          generalize (w2.alloc (.cells #[.int .i64 n, .int .i64 m] 3)).alloc (.cells #[.int .i64 nx, .int .i64 ny] 3) = w3 at *
          obtain ⟨wh, hwh⟩ : ∃ wh, mixF i (basesJ (n + m) k) = wh := ⟨_, rfl⟩
          have HWH := Lib.hid hwh
          rw [hwh] at HOW HMY HWG HWL2 HRw3 HRw
          clear hwh
          obtain ⟨P, hP⟩ : ∃ P, w2.heap.size = P := ⟨_, rfl⟩
          have HPe := Lib.hid hP
          rw [hP] at HHl HHh HB3 HS3 hsa hsb
          rw [hP]
          clear hP
          have hnm5 : n ≤ 5 ∧ m ≤ 5 := by omega
          obtain ⟨hn5, hm5⟩ := hnm5
          have HRw4 : Hid (∀ {wr}, Below P w3 wr → Rd wr (.slice aw k kw) (castL wh)) := fun {wr} hb => HRw.out.below (HB3.out.trans hb) (by rw [HPe.out]; exact Nat.le_refl _)
          go_loopw [73, 16, 17] (fun qv ov mv wr => ∃ q l0 l1 g0 g1 mny : Nat, ∃ dn : List Nat, q ≤ k ∧ qv = .int .i64 q ∧ mv = .int .i64 mny ∧ Hid (dn.length = q) ∧ Hid (ownsN n m nx ny wh = dn ++ ownsN l0 l1 g0 g1 (wh.drop q)) ∧ Hid (mny = prodN dn) ∧ Hid (mny ≤ 5 ^ q) ∧ l0 + l1 + q = n + m ∧ l0 ≤ 5 ∧ l1 ≤ 5 ∧ g0 ≤ 2 ∧ g1 ≤ 2 ∧ Hid (wr.heap[P]? = some (.cells #[.int .i64 l0, .int .i64 l1] 3 (0, 0))) ∧ Hid (wr.heap[P + 1]? = some (.cells #[.int .i64 g0, .int .i64 g1] 3 (0, 0))) ∧ Hid (wr.ownsRow (P + 2) 3 1 ov q ((castL dn).map (Value.int .i64))) ∧ Hid (Below P w3 wr) ∧ Hid (P + 2 ≤ wr.heap.size)) (fun qv _ _ _ => k - (intOf qv).toNat)
          case atStart => exact ⟨0, n, m, nx, ny, 1, [], by omega, rfl, rfl, rfl, rfl, rfl, Nat.le_refl _, by omega, by omega, by omega, by omega, by omega, HHl.out, HHh.out, World.ownsRow_nil _ _ _ _, Below.refl _ _, HS3.out⟩
          case round =>
            clear HHl HHh
            obtain ⟨q, l0, l1, g0, g1, mny, dn, hqk, rfl, rfl, HDL, HOE, HMN, HM5, hll, hl0, hl1, hg0, hg1', HL4, HH4, HO4, HB4, HS4⟩ := hrel
            have hmny := HM5.out
            by_cases hql : q < k
            · obtain ⟨bw, ow, rfl, hbw, cw⟩ := (HRw4.out HB4.out).at hql
              rw [castL_getD] at cw
              have hqw : q < wh.length := by rw [HWL2.out]; exact hql
              have HDR : Hid (wh.drop q = wh.getD q 0 :: wh.drop (q + 1)) := by
                show _ = _
                rw [List.drop_eq_getElem_cons hqw, List.getD_eq_getElem?_getD, List.getElem?_eq_getElem hqw]; rfl
              have hdl := HWG.out q hql
              have hqi : (q : Int) < k := by omega
              generalize wh.getD q 0 = d at *
              have a0 := cell_of_row _ _ 0 _ _ _ HL4.out
              have a1 := cell_of_row _ _ 1 _ _ _ HL4.out
              have b0 := cell_of_row _ _ 0 _ _ _ HH4.out
              have b1 := cell_of_row _ _ 1 _ _ _ HH4.out
              simp at a0 a1 b0 b1
              obtain ⟨av, kv, rfl⟩ := own_slice HO4.out
              have hP1 : P + 1 < wr.heap.size := by have := HS4.out; omega
              clear hqw
              by_cases hs : l0 ≤ d
              · have HG : Hid (g1 ∈ ownsN n m nx ny wh) := by show _ ∈ _; rw [HOE.out]; exact List.mem_append_right _ (by rw [HDR.out, ownsN, if_pos hs]; exact List.mem_cons_self)
                have hg1 := (HOW.out _ HG.out).1
                have hg5 := (HOW.out _ HG.out).2
                have HOE2 : Hid (ownsN n m nx ny wh = (dn ++ [g1]) ++ ownsN l0 (l1 - 1) g0 (g1 - 1) (wh.drop (q + 1))) := by
                  show _ = _
                  rw [HOE.out, HDR.out, ownsN, if_pos hs, List.append_assoc]; rfl
                have hsi : decide ((l0 : Int) ≤ (d : Int)) = true := decide_eq_true (by omega)
                have hsn : decide (l0 ≤ d) = true := decide_eq_true hs
                have hlp : 1 ≤ l1 := by omega
                have HMP : Hid (mny * g1 = prodN (dn ++ [g1])) := by show _ = _; rw [prodN_snoc, HMN.out]
                have hmp : mny * g1 ≤ 5 ^ (q + 1) := by
                  rw [Nat.pow_succ]; exact Nat.mul_le_mul hmny hg5
                have hp25 : 5 ^ (q + 1) ≤ 25 := by
                  have : 5 ^ (q + 1) ≤ 5 ^ 2 := Nat.pow_le_pow_right (by omega) (by omega)
                  omega
                have HMB := Lib.hid hmp
                have HQ5 := Lib.hid hp25
                obtain ⟨pr, hpr⟩ : ∃ pr : Nat, mny * g1 = pr := ⟨_, rfl⟩
                rw [hpr] at hmp HMP HMB
                have hpp : (mny : Int) * (g1 : Int) = (pr : Int) := by rw [← hpr]; simp
                have hpr25 : pr ≤ 25 := by omega
                have hs5 := HS4.out
                clear hpr hmp hp25 hs
                go_wp2_with (at_builtin; go_must (refine push rfl _ _ 26 rfl (P + 2) 3 i3 (.int .i64 0) 8 Try.underlying26 hi3 hz0 hz1 hz2 rfl _ q ((castL dn).map (Value.int .i64)) rfl HO4.out (.int .i64 g1) wr.heap.size rfl rfl rfl (by decide) (by omega) hs5 ?_))
                intro v5 w5 ho5 hg5'
                have hgb : Below (P + 2) wr w5 := grown_below hg5' HO4.out (Below.refl _ _) (Nat.le_refl _) hs5
                have hl5 := (hgb.block P (by omega)).trans HL4.out
                have hh5 := (hgb.block (P + 1) (by omega)).trans HH4.out
                have HL5 := Lib.hid hl5
                have HH5 := Lib.hid hh5
                have HO5 : Hid (w5.ownsRow (P + 2) 3 1 v5 (q + 1) ((castL (dn ++ [g1])).map (Value.int .i64))) := by rw [castL_app, List.map_append]; exact ho5
                have HB5 := Lib.hid (HB4.out.trans (hgb.mono (by omega)))
                have HS5 : Hid (P + 2 ≤ w5.heap.size) := Nat.le_trans hs5 hgb.size
                have k0 := cell_of_row _ _ 0 _ _ _ hl5
                have k1 := cell_of_row _ _ 1 _ _ _ hl5
                have m0 := cell_of_row _ _ 0 _ _ _ hh5
                have m1 := cell_of_row _ _ 1 _ _ _ hh5
                have f0 := free_of_row _ _ 0 _ _ hl5
                have f1 := free_of_row _ _ 1 _ _ hl5
                have e0 := free_of_row _ _ 0 _ _ hh5
                have e1 := free_of_row _ _ 1 _ _ hh5
                simp at k0 k1 m0 m1
                have n1 : ¬ P = P + 1 := by omega
                have n2 : ¬ P + 1 = P := by omega
                have HLC : Hid (((l1 - 1 : Nat) : Int) = (l1 : Int) - 1) := by show _ = _; omega
                have HGC : Hid (((g1 - 1 : Nat) : Int) = (g1 : Int) - 1) := by show _ = _; omega
                clear hgb hl5 hh5 ho5 hg5' a0 a1 b0 b1
                go_wp2_with fail
                go_roundw
                case rel =>
                  refine ⟨q + 1, l0, l1 - 1, g0, g1 - 1, pr, dn ++ [g1], by omega, by go_num, rfl, by show _ = _; rw [List.length_append, HDL.out]; rfl, HOE2.out, HMP.out, HMB.out, by omega, by omega, by omega, by omega, by omega, ?_, ?_, ?_, (HB5.out.setCell (by show P ≤ P; omega) _).setCell (by show P ≤ P + 1; omega) _, by show _ ≤ _; simpa [World.setCell] using HS5.out⟩
                  · have h1 := heap_at_setCell (j := 1) (u := .int .i64 ((l1 - 1 : Nat) : Int)) HL5.out
                    have h2 := (Below.heap_setCell (w5.setCell ⟨P, 1, none⟩ (.int .i64 ((l1 - 1 : Nat) : Int))) ⟨P + 1, 1, none⟩ (.int .i64 ((g1 - 1 : Nat) : Int)) P (by simp)).trans h1
                    rw [HLC.out, HGC.out] at h2
                    show _ = _
                    rw [HLC.out]
                    simpa using h2
                  · have h1 := (Below.heap_setCell w5 ⟨P, 1, none⟩ (.int .i64 ((l1 - 1 : Nat) : Int)) (P + 1) (by simp)).trans HH5.out
                    have h2 := heap_at_setCell (j := 1) (u := .int .i64 ((g1 - 1 : Nat) : Int)) h1
                    rw [HLC.out, HGC.out] at h2
                    show _ = _
                    rw [HGC.out]
                    simpa using h2
                  · exact own_store (own_store HO5.out (by show P < P + 2; omega) _) (by show P + 1 < P + 2; omega) _
                case measure => simp [intOf]; omega
              · have HG : Hid (g0 ∈ ownsN n m nx ny wh) := by show _ ∈ _; rw [HOE.out]; exact List.mem_append_right _ (by rw [HDR.out, ownsN, if_neg hs]; exact List.mem_cons_self)
                have hg1 := (HOW.out _ HG.out).1
                have hg5 := (HOW.out _ HG.out).2
                have HOE2 : Hid (ownsN n m nx ny wh = (dn ++ [g0]) ++ ownsN (l0 - 1) l1 (g0 - 1) g1 (wh.drop (q + 1))) := by
                  show _ = _
                  rw [HOE.out, HDR.out, ownsN, if_neg hs, List.append_assoc]; rfl
                have hsi : decide ((l0 : Int) ≤ (d : Int)) = false := decide_eq_false (by omega)
                have hsn : decide (l0 ≤ d) = false := decide_eq_false hs
                have hlp : 1 ≤ l0 := by omega
                have HMP : Hid (mny * g0 = prodN (dn ++ [g0])) := by show _ = _; rw [prodN_snoc, HMN.out]
                have hmp : mny * g0 ≤ 5 ^ (q + 1) := by
                  rw [Nat.pow_succ]; exact Nat.mul_le_mul hmny hg5
                have hp25 : 5 ^ (q + 1) ≤ 25 := by
                  have : 5 ^ (q + 1) ≤ 5 ^ 2 := Nat.pow_le_pow_right (by omega) (by omega)
                  omega
                have HMB := Lib.hid hmp
                have HQ5 := Lib.hid hp25
                obtain ⟨pr, hpr⟩ : ∃ pr : Nat, mny * g0 = pr := ⟨_, rfl⟩
                rw [hpr] at hmp HMP HMB
                have hpp : (mny : Int) * (g0 : Int) = (pr : Int) := by rw [← hpr]; simp
                have hpr25 : pr ≤ 25 := by omega
                have hs5 := HS4.out
                clear hpr hmp hp25 hs
                go_wp2_with (at_builtin; go_must (refine push rfl _ _ 26 rfl (P + 2) 3 i3 (.int .i64 0) 8 Try.underlying26 hi3 hz0 hz1 hz2 rfl _ q ((castL dn).map (Value.int .i64)) rfl HO4.out (.int .i64 g0) wr.heap.size rfl rfl rfl (by decide) (by omega) hs5 ?_))
                intro v5 w5 ho5 hg5'
                have hgb : Below (P + 2) wr w5 := grown_below hg5' HO4.out (Below.refl _ _) (Nat.le_refl _) hs5
                have hl5 := (hgb.block P (by omega)).trans HL4.out
                have hh5 := (hgb.block (P + 1) (by omega)).trans HH4.out
                have HL5 := Lib.hid hl5
                have HH5 := Lib.hid hh5
                have HO5 : Hid (w5.ownsRow (P + 2) 3 1 v5 (q + 1) ((castL (dn ++ [g0])).map (Value.int .i64))) := by rw [castL_app, List.map_append]; exact ho5
                have HB5 := Lib.hid (HB4.out.trans (hgb.mono (by omega)))
                have HS5 : Hid (P + 2 ≤ w5.heap.size) := Nat.le_trans hs5 hgb.size
                have k0 := cell_of_row _ _ 0 _ _ _ hl5
                have k1 := cell_of_row _ _ 1 _ _ _ hl5
                have m0 := cell_of_row _ _ 0 _ _ _ hh5
                have m1 := cell_of_row _ _ 1 _ _ _ hh5
                have f0 := free_of_row _ _ 0 _ _ hl5
                have f1 := free_of_row _ _ 1 _ _ hl5
                have e0 := free_of_row _ _ 0 _ _ hh5
                have e1 := free_of_row _ _ 1 _ _ hh5
                simp at k0 k1 m0 m1
                have n1 : ¬ P = P + 1 := by omega
                have n2 : ¬ P + 1 = P := by omega
                have HLC : Hid (((l0 - 1 : Nat) : Int) = (l0 : Int) - 1) := by show _ = _; omega
                have HGC : Hid (((g0 - 1 : Nat) : Int) = (g0 : Int) - 1) := by show _ = _; omega
                clear hgb hl5 hh5 ho5 hg5' a0 a1 b0 b1
                go_wp2_with fail
                go_roundw
                case rel =>
                  refine ⟨q + 1, l0 - 1, l1, g0 - 1, g1, pr, dn ++ [g0], by omega, by go_num, rfl, by show _ = _; rw [List.length_append, HDL.out]; rfl, HOE2.out, HMP.out, HMB.out, by omega, by omega, by omega, by omega, by omega, ?_, ?_, ?_, (HB5.out.setCell (by show P ≤ P; omega) _).setCell (by show P ≤ P + 1; omega) _, by show _ ≤ _; simpa [World.setCell] using HS5.out⟩
                  · have h1 := heap_at_setCell (j := 0) (u := .int .i64 ((l0 - 1 : Nat) : Int)) HL5.out
                    have h2 := (Below.heap_setCell (w5.setCell ⟨P, 0, none⟩ (.int .i64 ((l0 - 1 : Nat) : Int))) ⟨P + 1, 0, none⟩ (.int .i64 ((g0 - 1 : Nat) : Int)) P (by simp)).trans h1
                    rw [HLC.out, HGC.out] at h2
                    show _ = _
                    rw [HLC.out]
                    simpa using h2
                  · have h1 := (Below.heap_setCell w5 ⟨P, 0, none⟩ (.int .i64 ((l0 - 1 : Nat) : Int)) (P + 1) (by simp)).trans HH5.out
                    have h2 := heap_at_setCell (j := 0) (u := .int .i64 ((g0 - 1 : Nat) : Int)) h1
                    rw [HLC.out, HGC.out] at h2
                    show _ = _
                    rw [HGC.out]
                    simpa using h2
                  · exact own_store (own_store HO5.out (by show P < P + 2; omega) _) (by show P + 1 < P + 2; omega) _
                case measure => simp [intOf]; omega
            · obtain rfl : q = k := by omega
              have HDE : Hid (ownsN n m nx ny wh = dn) := by
                show _ = _
                rw [HOE.out, List.drop_of_length_le (by rw [HWL2.out]; exact Nat.le_refl _)]
                simp [ownsN]
              have HMJ : Hid (mny = manyJ q n m x y i) := by show _ = _; rw [HMN.out, HMY.out, HDE.out]
              have hm25 : mny ≤ 25 := by have := HM25.out; rw [← HMJ.out] at this; exact this
              have hm1 : 0 < mny := by have := HM1.out; rw [← HMJ.out] at this; exact this
              rw [← HMJ.out] at HGJ
              obtain ⟨ao, ko, rfl⟩ := own_slice HO4.out
              have HRo := Lib.hid (Rd.own HO4.out)
              have HRh := Lib.hid (HRw4.out HB4.out)
              have HB6 : Hid (Below P w2 wr) := HB3.out.trans HB4.out
              have HA6 := Lib.hid (HA2.out.below HB6.out hsa)
              have HC6 := Lib.hid (HC2.out.below HB6.out hsb)
              have HM6 : Hid (MC wr mb (N + i * 25 + 0) (AJi L q n m x y i)) := ((HMi.out.kept HB2.out HMi.out.lt).kept HB6.out (by have := HML.out; omega))
              have HG6 : Hid (wq.grownBy wr (some mb)) := grown_trans HGi.out (grown_trans ⟨HB2.out.os, HB2.out.tape, HB2.out.output, HB2.out.size, fun i hi _ => HB2.out.block i hi⟩ ⟨HB6.out.os, HB6.out.tape, HB6.out.output, HB6.out.size, fun i hi _ => HB6.out.block i (by rw [← HPe.out]; exact hi)⟩)
              have HBW : Hid (Below w.heap.size w w → True) := fun _ => trivial
              have HX6 := Lib.hid ((HXi.out.below HB2.out (Nat.le_refl _)).below HB6.out (by rw [HPe.out]; exact Nat.le_refl _))
              have HY6 := Lib.hid ((HYi.out.below HB2.out (Nat.le_refl _)).below HB6.out (by rw [HPe.out]; exact Nat.le_refl _))
              have hql2 : (720720 : Int) / (mny : Int) = ((720720 / mny : Nat) : Int) := by simp
              have hqb : 720720 / mny ≤ 720720 := Nat.div_le_self _ _
              have HWQ : Hid (wrap64 ((720720 : Int) / (mny : Int)) = ((720720 / mny : Nat) : Int)) := by
                show _ = _
                rw [hql2]
                generalize 720720 / mny = z at hqb ⊢
                unfold wrap64
                omega
              obtain ⟨inc, hinc⟩ : ∃ inc, 720720 / mny = inc := ⟨_, rfl⟩
              have HINC := Lib.hid hinc
              rw [hinc] at hql2 hqb HWQ
              clear hinc
              obtain ⟨w6, rfl⟩ : ∃ w6 : World, w6 = wr := ⟨_, rfl⟩
              clear HL4 HH4 HO4 HB4 HS4 HB3 HS3 HRw HRw3 HRw4 HA2 HC2 HB2 HRi HXi HYi HAi HCi
              go_wp2_with fail
              go_loopw [109] (fun jv wr => ∃ j : Nat, j ≤ mny ∧ jv = .int .i64 j ∧ Hid (MC wr mb (N + i * 25 + j) (AJj (AJi L q n m x y i) q n m x y i j)) ∧ Hid (w6.grownBy wr (some mb))) (fun jv _ => mny - (intOf jv).toNat)
              case atStart => exact ⟨0, Nat.zero_le _, rfl, HM6.out, World.grownBy.refl _ _⟩
              case round =>
                obtain ⟨j, hjm, rfl, HMj, HGj⟩ := hrel
                by_cases hjl : j < mny
                · have hg0 := HGJ.out j hjl
                  unfold goodJ at hg0
                  simp only [Bool.and_eq_true, decide_eq_true_eq] at hg0
                  obtain ⟨hg1, hg2⟩ := hg0
                  rw [HXL.out, HYL.out, HWH.out, HDE.out] at hg1
                  cases hrj : runJ q n m x y i j with
                  | none => rw [hrj] at hg2; cases hg2
                  | some t =>
                    rw [hrj] at hg2
                    simp only [Bool.and_eq_true, decide_eq_true_eq, List.all_eq_true, beq_iff_eq] at hg2
                    obtain ⟨⟨hg3, hg4⟩, hg5⟩ := hg2
                    have HK1 := Lib.hid hg1
                    have HK3 := Lib.hid hg3
                    have HK4 := Lib.hid hg4
                    have HK5 := Lib.hid hg5
                    have HKY : Hid (keyJ q n m x y i j = setN (natsOf t.o) 0) := by show _ = _; unfold keyJ; rw [hrj]
                    have HRUN : Hid (prun (st0 n m x y) (castL wh) (castL (mixF j dn)) q = some t) := by
                      show _ = _
                      unfold runJ at hrj
                      rwa [HXL.out, HYL.out, HWH.out, HDE.out] at hrj
                    have HAS : Hid (AJj (AJi L q n m x y i) q n m x y i (j + 1) = bump (AJj (AJi L q n m x y i) q n m x y i j) (keyJ q n m x y i j) inc) := by
                      show bump _ _ (720720 / manyJ q n m x y i) = _
                      rw [← HMJ.out, HINC.out]
                    have HALE : Hid (∀ z, lk (AJj (AJi L q n m x y i) q n m x y i j) z ≤ 2000000000000) := fun z => by
                      have e1 := lk_AJi L q n m x y z B 720720 (HL.out z) (fun i => Nat.div_le_self _ _) i (fun j' hj' => by
                        have := HF0.out j' (by omega)
                        unfold fineI at this
                        simp only [Bool.and_eq_true, decide_eq_true_eq] at this
                        exact this.1.1.2)
                      have e2 := lk_AJj (AJi L q n m x y i) q n m x y i z _ 720720 e1 (Nat.div_le_self _ _) j
                      have e3 : i ≤ 20 := by omega
                      omega
                    clear hg1 hg3 hg4 hg5 hrj
                    have HPN : Hid (pN q n m = q) := by show _ = _; unfold pN; omega
                    have HDL2 := HDL
                    have HMX : Hid (∀ X, Rd X (.slice ao q ko) (castL dn) → Calls Try.prog 16 #[.int .i64 j, .slice ao q ko] X fun e w' => Below X.heap.size X w' ∧ ∃ a2 k2, e = .returned (.slice a2 q k2) ∧ Rd w' (.slice a2 q k2) (castL (mixF j dn))) := fun X hr => by
                      have hb5 : ∀ b ∈ dn, 0 < b ∧ b ≤ 5 := fun b hb => HOW.out b (by rw [HDE.out]; exact hb)
                      refine (mixed_ok j dn _ X hr (by omega) (fun b hb => (hb5 b hb).1) (by rw [HDL.out]; omega) (fun b hb => by have := (hb5 b hb).2; omega)).mono ?_
                      rintro e w' ⟨hb, v', rfl, ho⟩
                      rw [HDL.out] at ho
                      obtain ⟨a2, k2, rfl⟩ := own_slice ho
                      exact ⟨hb, a2, k2, rfl, Rd.own ho⟩
                    have hsaj : w.heap.size < wr.heap.size := Nat.lt_of_lt_of_le HA6.out.lt HGj.out.size
                    have hsbj : w.heap.size + 1 < wr.heap.size := Nat.lt_of_lt_of_le HC6.out.lt HGj.out.size
                    have HAj : Hid (BX wr w.heap.size q n (.slice ax nx kx)) := (HGj.out.block _ HA6.out.lt (by have := HML.out; simp; omega)).trans HA6.out
                    have HCj : Hid (BX wr (w.heap.size + 1) q m (.slice ay ny ky)) := (HGj.out.block _ HC6.out.lt (by have := HML.out; simp; omega)).trans HC6.out
                    have HXj := Lib.hid (HX6.out.grown' HM6.out HGj.out)
                    have HYj := Lib.hid (HY6.out.grown' HM6.out HGj.out)
                    have HRhj := Lib.hid (HRh.out.grown' HM6.out HGj.out)
                    have HRoj := Lib.hid (HRo.out.grown' HM6.out HGj.out)
                    have HPX : Hid (∀ X a2 k2, Below wr.heap.size wr X → Rd X (.slice a2 q k2) (castL (mixF j dn)) → Calls Try.prog 11 #[.agg #[.int .i64 q, .int .i64 n, .slice ax nx kx], .agg #[.int .i64 q, .int .i64 m, .slice ay ny ky], .slice aw q kw, .slice a2 q k2] X fun e w' => Below X.heap.size X w' ∧ ∃ a3 n3 k3, e = .returned (.tuple #[.agg #[.int .i64 q, .int .i64 ((n : Int) + m), .slice a3 n3 k3], .int .i64 0]) ∧ w'.ownsRow X.heap.size 3 1 (.slice a3 n3 k3) n3 (t.o.map (Value.int .i64))) := fun X a2 k2 hX hr => by
                      refine (pools_any q n q m ax ay aw a2 nx ny q q kx ky kw k2 x y _ _ X (HXj.out.below hX (Nat.le_refl _)) (HYj.out.below hX (Nat.le_refl _)) (HRhj.out.below hX (Nat.le_refl _)) hr).mono ?_
                      rintro e w' ⟨hb, ⟨-, t', v', ht, rfl, ho⟩ | ⟨h0, -⟩⟩
                      · rw [HPN.out, HRUN.out] at ht
                        cases ht
                        obtain ⟨a3, k3, rfl⟩ := own_slice ho
                        exact ⟨hb, a3, _, k3, rfl, ho⟩
                      · exact absurd HK1.out h0
                    have c0 := HAj.out.c0
                    have c1 := HAj.out.c1
                    have c2 := HAj.out.c2
                    have d0 := HCj.out.c0
                    have d1 := HCj.out.c1
                    have d2 := HCj.out.c2
                    have SB : Hid (∀ w', Below wr.heap.size wr w' → w'.cell? ⟨w.heap.size, 0, none⟩ = some (.int .i64 q) ∧ w'.cell? ⟨w.heap.size, 1, none⟩ = some (.int .i64 n) ∧ w'.cell? ⟨w.heap.size, 2, none⟩ = some (.slice ax nx kx) ∧ w'.cell? ⟨w.heap.size + 1, 0, none⟩ = some (.int .i64 q) ∧ w'.cell? ⟨w.heap.size + 1, 1, none⟩ = some (.int .i64 m) ∧ w'.cell? ⟨w.heap.size + 1, 2, none⟩ = some (.slice ay ny ky)) := fun w' hb => ⟨(World.cell?_of_block (hb.block _ hsaj)).trans c0, (World.cell?_of_block (hb.block _ hsaj)).trans c1, (World.cell?_of_block (hb.block _ hsaj)).trans c2, (World.cell?_of_block (hb.block _ hsbj)).trans d0, (World.cell?_of_block (hb.block _ hsbj)).trans d1, (World.cell?_of_block (hb.block _ hsbj)).trans d2⟩
                    go_wp2_with fail
                    go_cut [22, 23] from 110 to 142 (fun s22 s23 wx => ∃ Q a3 n3 k3, s22 = .pointer (some ⟨Q, 0, none⟩) ∧ s23 = .int .i64 0 ∧ Hid (BX wx Q q ((n : Int) + m) (.slice a3 n3 k3)) ∧ Hid (Rd wx (.slice a3 n3 k3) t.o) ∧ Hid (Below wr.heap.size wr wx))
                    case first =>
                      go_region_held3 (fun w' => w'.cell? ⟨w.heap.size, 0, none⟩ = some (.int .i64 q) ∧ w'.cell? ⟨w.heap.size, 1, none⟩ = some (.int .i64 n) ∧ w'.cell? ⟨w.heap.size, 2, none⟩ = some (.slice ax nx kx) ∧ w'.cell? ⟨w.heap.size + 1, 0, none⟩ = some (.int .i64 q) ∧ w'.cell? ⟨w.heap.size + 1, 1, none⟩ = some (.int .i64 m) ∧ w'.cell? ⟨w.heap.size + 1, 2, none⟩ = some (.slice ay ny ky)) (first | exact ⟨c0, c1, c2, d0, d1, d2⟩ | exact SB.out _ (((Below.refl _ _).alloc (Nat.le_refl _) _).drew) | exact SB.out _ (by assumption) | exact SB.out _ (hB4.alloc hB4.size _) | exact SB.out _ (hB5.alloc hB5.size _) | exact SB.out _ (((hB5.setCell (by first | exact Nat.le_refl _ | exact hB4.size) _).setCell (by first | exact Nat.le_refl _ | exact hB4.size) _).setCell (by first | exact Nat.le_refl _ | exact hB4.size) _)) (first
                        | (go_at_call 16; (with_reducible refine (HMX.out wr.drew HRoj.out.drew).mono ?_); rintro e w4 ⟨hb4, a2', k2', rfl, hr4⟩; (have hB4 : Below wr.heap.size wr w4 := undrew hb4))
                        | (go_at_call 16; (with_reducible refine (HMX.out (wr.alloc (.cells #[.int .i64 0, .int .i64 0, .slice none 0 0] 28)).drew (HRoj.out.alloc _).drew).mono ?_); rintro e w4 ⟨hb4, a2', k2', rfl, hr4⟩; (have hB4 : Below wr.heap.size wr w4 := ((Below.refl wr.heap.size wr).alloc (Nat.le_refl _) _).trans ((undrew hb4).mono (by simp))); (have hZ4 := BX.below (w := (wr.alloc (.cells #[.int .i64 0, .int .i64 0, .slice none 0 0] 28)).drew) (BX.new wr 0 0 (.slice none 0 0)) hb4 (by simp)))
                        | (go_at_call 11; (with_reducible refine (HPX.out w4 a2' k2' hB4 hr4).mono ?_); rintro e w5 ⟨hb5, a3, n3, k3, rfl, ho5⟩; (have hB5 : Below wr.heap.size wr w5 := hB4.trans (hb5.mono hB4.size)); (have hZ5 := hZ4.below hb5 hZ4.lt); (have e0 := hZ5.c0); (have e1 := hZ5.c1); (have e2 := hZ5.c2); (have f0 := hZ5.fr 0); (have f1 := hZ5.fr 1); (have f2 := hZ5.fr 2))
                        | (go_at_call 11; (with_reducible refine (HPX.out w4 a2' k2' hB4 hr4).mono ?_); rintro e w5 ⟨hb5, a3, n3, k3, rfl, ho5⟩; (have hB5 : Below wr.heap.size wr w5 := hB4.trans (hb5.mono hB4.size)))
                        | (go_at_call 11; (with_reducible refine (HPX.out (w4.alloc (.cells #[.int .i64 0, .int .i64 0, .slice none 0 0] 28)) a2' k2' (hB4.alloc hB4.size _) (hr4.alloc _)).mono ?_); rintro e w5 ⟨hb5, a3, n3, k3, rfl, ho5⟩; (have hB5 : Below wr.heap.size wr w5 := (hB4.alloc hB4.size _).trans (hb5.mono (by simp; exact Nat.le_succ_of_le hB4.size))); (have hZ5 := (BX.new w4 0 0 (.slice none 0 0)).below hb5 (by simp)); (have e0 := hZ5.c0); (have e1 := hZ5.c1); (have e2 := hZ5.c2); (have f0 := hZ5.fr 0); (have f1 := hZ5.fr 1); (have f2 := hZ5.fr 2)))
                      all_goals
                        go_wp2_with fail
                        go_meet
                        first
                          | (have hZ : BX w5 w4.heap.size 0 0 (.slice none 0 0) := hZ5
                             have hQw : wr.heap.size ≤ w4.heap.size := by first | exact Nat.le_refl _ | exact hB4.size
                             have hQl : w4.heap.size < (w4.alloc (.cells #[.int .i64 0, .int .i64 0, .slice none 0 0] 28)).heap.size := by first | exact hZ4.lt | (simp; done)
                             exact ⟨_, a3, n3, k3, rfl, rfl, ((hZ.set0 _).set1 _).set2 _, Rd.own (own_store (own_store (own_store ho5 hQl _) hQl _) hQl _), ((hB5.setCell hQw _).setCell hQw _).setCell hQw _⟩)
                          | (have hZ : BX w5 wr.heap.size 0 0 (.slice none 0 0) := hZ5
                             have hQw : wr.heap.size ≤ wr.heap.size := by first | exact Nat.le_refl _ | exact hB4.size
                             have hQl : wr.heap.size < w4.heap.size := by first | exact hZ4.lt | (simp; done)
                             exact ⟨_, a3, n3, k3, rfl, rfl, ((hZ.set0 _).set1 _).set2 _, Rd.own (own_store (own_store (own_store ho5 hQl _) hQl _) hQl _), ((hB5.setCell hQw _).setCell hQw _).setCell hQw _⟩)
                          | exact ⟨_, a3, n3, k3, rfl, rfl, BX.new _ _ _ _, (Rd.own ho5).alloc _, hB5.alloc hB5.size _⟩
                    case rest =>
                      obtain ⟨Q, a3, n3, k3, rfl, rfl, HQ, HQR, HQB⟩ := hcut
                      have HMc := Lib.hid (HMj.out.kept HQB.out HMj.out.lt)
                      have HQR' : Hid (Rd wc (.slice a3 n3 k3) (castL (natsOf t.o))) := by show Rd _ _ _; rw [HK3.out]; exact HQR.out
                      have HKL : Hid ((natsOf t.o).length = n3) := by
                        obtain ⟨_, _, he, -⟩ := HQR'.out.slice
                        show _ = _
                        rw [castL_len] at he
                        injection he with _ he
                        exact he.symm
                      have HKM : Hid (∀ z ∈ natsOf t.o, z < 20) := HK4.out
                      have hn20 : n3 ≤ 20 := by have := HK5.out; rw [← HKL.out]; unfold natsOf; rw [List.length_map]; exact this
                      have HSt0 : Hid (setN ((natsOf t.o).take 0) 0 = 0) := rfl
                      have HGc : Hid (w6.grownBy wc (some mb)) := grown_trans HGj.out ⟨HQB.out.os, HQB.out.tape, HQB.out.output, HQB.out.size, fun i hi _ => HQB.out.block i hi⟩
                      have e2 := HQ.out.c2
                      clear c0 c1 c2 d0 d1 d2
                      generalize natsOf t.o = zs at *
                      have hmny0 : ((mny : Int) == 0) = false := by rw [beq_eq_false_iff_ne]; omega
                      have hmny1 : ((mny : Int) == -1) = false := by rw [beq_eq_false_iff_ne]; omega
                      have hwi : wrap64 (inc : Int) = (inc : Int) := wrap_s inc hqb
                      have hwj : IntKind.i64.wrap (inc : Int) = (inc : Int) := wrap_s2 inc hqb
                      go_wp2_with fail
                      go_loop [127, 24] (fun iv sv => ∃ p : Nat, p ≤ n3 ∧ iv = .int .i64 p ∧ sv = .int .i64 (setN (zs.take p) 0 : Nat)) (fun iv _ => n3 - (intOf iv).toNat)
                      case atStart => exact ⟨0, Nat.zero_le _, rfl, by rw [HSt0.out]; rfl⟩
                      case round =>
                        obtain ⟨p, hpm, rfl, rfl⟩ := hrel
                        by_cases hplt : p < n3
                        · obtain ⟨b, off, rfl, hb, cl⟩ := HQR'.out.at hplt
                          rw [castL_getD] at cl
                          have hiz : p < zs.length := by rw [HKL.out]; exact hplt
                          have hz20 : zs.getD p 0 < 20 := HKM.out _ (by
                            rw [List.getD_eq_getElem?_getD, List.getElem?_eq_getElem hiz]; exact List.getElem_mem _)
                          have HST := Lib.hid (setN_take zs 0 p hiz)
                          have hs := setN_lt (zs.take p) 0 (fun z hz => HKM.out z (List.mem_of_mem_take hz)) (by decide)
                          generalize zs.getD p 0 = z at *
                          generalize setN (zs.take p) 0 = s at *
                          clear hiz
                          go_wp2_with fail
                          refine ⟨⟨p + 1, by omega, by go_num, ?_⟩, by simp [intOf]; omega⟩
                          have h2 : (2 : Int) ^ z = ((2 ^ z : Nat) : Int) := by rw [Int.natCast_pow]; rfl
                          have h3 : 2 ^ z < 1048576 := Nat.pow_lt_pow_right (by omega) hz20
                          have hs' : s < 1048576 := hs
                          rw [h2, HST.out]
                          clear hs h2 HST
                          generalize (2 ^ z : Nat) = tt at *
                          have h4 : wrap64 (tt : Int) = (tt : Int) := by
                            unfold wrap64
                            omega
                          rw [h4, or64s s tt hs' h3]
                        · obtain rfl : p = n3 := by omega
                          have hs : setN zs 0 < 1048576 := setN_lt zs 0 (fun z hz => HKM.out z hz) (by decide)
                          have HTk : Hid (zs.take p = zs) := List.take_of_length_le (by rw [HKL.out]; exact Nat.le_refl _)
                          rw [HTk.out]
                          obtain ⟨s, hsn⟩ : ∃ s, setN zs 0 = s := ⟨_, rfl⟩
                          have HSN := Lib.hid hsn
                          rw [hsn] at hs ⊢
                          clear hsn
                          obtain ⟨D, hD1, hD2, hD3, hD4, hD5⟩ := HMc.out
                          have HD2 := Lib.hid hD2
                          have HD3 := Lib.hid hD3
                          have HD4 := Lib.hid hD4
                          have HD5 := Lib.hid hD5
                          have HD1 := Lib.hid hD1
                          have hlk := HALE.out (s : Int)
                          have hkey : keyOf Try.prog 3 (.int .i64 s) = some (.int .i64 s) := keyOf_int_mk Try.underlying3 (Go.WalkArith.wf_i64 (by omega))
                          have HKEY := Lib.hid hkey
                          clear hD1 hD2 hD3 hD4 hD5 hkey
                          generalize AJj (AJi L q n m x y i) q n m x y i j = Lx at *
                          have hNb : N + i * 25 + j < maxLen := by unfold maxLen; omega
                          have HNb := Lib.hid hNb
                          clear hNb
                          have HDr : wc.drew.ownsMap (H := Unit) Try.prog 3 (plainElem Try.prog 3) mb (N + i * 25 + j) D := HD1.out
                          obtain ⟨cv, hrun, hat, -⟩ := HDr.lookup_int key3 Try.underlying23 Try.underlying3 (zero3 _) HKEY.out
                          have hcc : cv = lk Lx s := by
                            have := HD3.out s
                            rw [hat] at this
                            simpa using this
                          subst hcc
                          obtain ⟨w9, hup, ho9, hg9'⟩ := HDr.update key3 Try.underlying23 HNb.out HKEY.out (val := .int .i64 ((lk Lx s : Int) + (inc : Int))) (plainElem_int Try.underlying3 (wf_l _ _ hlk hqb))
                          have hg9 : wc.grownBy w9 (some mb) := ⟨hg9'.os, hg9'.tape, hg9'.output, hg9'.size, hg9'.block⟩
                          have hwl : IntKind.i64.wrap ((lk Lx s : Int) + (inc : Int)) = (lk Lx s : Int) + (inc : Int) := wrap_l _ _ hlk hqb
                          clear hat HDr hg9'
                          go_wp2_with fail
                          go_region
                          have HM9 : Hid (MC w9 mb (N + i * 25 + (j + 1)) (AJj (AJi L q n m x y i) q n m x y i (j + 1))) := by
                            show MC _ _ _ _
                            rw [HAS.out, HKY.out, HSN.out]
                            exact MC.put HD2.out HD3.out HD4.out HD5.out (by rw [Int.natCast_add]; exact ho9)
                          have HG9 : Hid (w6.grownBy w9 (some mb)) := grown_trans HGc.out hg9
                          clear ho9 hg9 hrun hup
                          go_wp2_with fail
                          go_roundw
                          case rel => exact ⟨j + 1, by omega, by go_num, HM9.out, HG9.out⟩
                          case measure => simp [intOf]; omega
                · obtain rfl : j = mny := by omega
                  have HMn : Hid (MC wr mb (N + (i + 1) * 25) (AJi L q n m x y (i + 1))) := by
                    show MC _ _ _ (AJj (AJi L q n m x y i) q n m x y i (manyJ q n m x y i))
                    rw [← HMJ.out]
                    exact HMj.out.mono (by omega)
                  have HGn := Lib.hid (grown_trans HG6.out HGj.out)
                  go_wp2_with fail
                  go_roundw
                  case rel => exact ⟨i + 1, by omega, by go_num, HMn.out, HGn.out⟩
                  case measure => simp [intOf]; omega
        · obtain rfl : i = a := by omega
          have HMz : Hid (MC wr mb (N + 500) (AJi L k n m x y (prodN (basesJ (n + m) k)))) := by
            show MC _ _ _ _
            rw [← HAW.out]
            exact HMi.out.mono (by omega)
          have HGz : Hid (w.grownBy wr (some mb)) := grown_trans ⟨HBq.out.os, HBq.out.tape, HBq.out.output, HBq.out.size, fun i hi _ => HBq.out.block i hi⟩ HGi.out
          go_wp2_with ((with_reducible refine bodyPost_ret (v := .bool true) (by simp [results, Try.results8, go_sem]) rfl ?_); exact ⟨rfl, HMz.out, HGz.out⟩)
end Go.Proofs.Ytkebahdapkjacaa
