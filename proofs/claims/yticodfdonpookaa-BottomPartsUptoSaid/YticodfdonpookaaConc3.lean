/- slices.Concat of three slices: a row of one's own. No condition but that it fits. -/
import Derived.Test.YticodfdonpookaaConcU
set_option linter.unusedSimpArgs false
set_option linter.unusedVariables false
namespace Go.Proofs.Yticodfdonpookaa
open Go.RowKit
set_option maxHeartbeats 3200000 in
theorem concat3_any (b n1 c1 n2 c2 n3 c3 : Nat) (a1 a2 a3 : Option Addr) (xs ys zs : List Int) (w : World) (hr1 : Rd w (.slice a1 n1 c1) xs) (hr2 : Rd w (.slice a2 n2 c2) ys) (hr3 : Rd w (.slice a3 n3 c3) zs)
    (hn1 : a1 = none → n1 = 0 ∧ c1 = 0) (hn2 : a2 = none → n2 = 0 ∧ c2 = 0) (hn3 : a3 = none → n3 = 0 ∧ c3 = 0)
    (hk1 : w.cell? ⟨b, 0, none⟩ = some (.slice a1 n1 c1)) (hk2 : w.cell? ⟨b, 1, none⟩ = some (.slice a2 n2 c2)) (hk3 : w.cell? ⟨b, 2, none⟩ = some (.slice a3 n3 c3)) (hb : b < w.heap.size)
    (hlen : (n1 + n2 + n3) * 8 ≤ 281474976710656) :
    Calls Try.prog 10 #[.slice (some ⟨b, 0, none⟩) 3 3] w fun e w' => Below w.heap.size w w' ∧ ∃ v, e = .returned v ∧ w'.ownsRow w.heap.size 22 1 v (n1 + n2 + n3) ((xs ++ ys ++ zs).map (Value.int .u64)) := by
  obtain ⟨i0, hi, hz0, hz1, hz2⟩ := info_parts Try.info22t
  obtain ⟨l1, m1, m1', p1⟩ := hr1.app
  obtain ⟨l2, m2, m2', p2⟩ := hr2.app
  obtain ⟨l3, m3, m3', p3⟩ := hr3.app
  have HP1 := Lib.hid p1
  have HP2 := Lib.hid p2
  have HP3 := Lib.hid p3
  clear p1 p2 p3 hr1 hr2 hr3
  have HN1 := Lib.hid hn1; have HN2 := Lib.hid hn2; have HN3 := Lib.hid hn3
  clear hn1 hn2 hn3
  go_enter Try.func10, Try.ntmps10
  go_wp2_with fail
  refine wp_loop_rounds 4 ?_
  rw [rounds_succ]
  go_wp2_with fail
  rw [rounds_succ]
  go_wp2_with fail
  rw [rounds_succ]
  go_wp2_with fail
  rw [rounds_succ]
  go_wp2_with fail
  have hg := Lib.hid (fun w => growi_any (n1 + n2 + n3) hlen w)
  have hcast : ((n1 : Int) + (n2 : Int) + (n3 : Int)) = ((n1 + n2 + n3 : Nat) : Int) := by omega
  rw [hcast]
  clear hcast
  refine (hg.out _).mono ?_
  rintro e w1 ⟨hb1, v, rfl, hown⟩
  have HB := Lib.hid hb1
  have HO := Lib.hid hown
  have hk1' : w1.cell? ⟨b, 0, none⟩ = some (.slice a1 n1 c1) := ((bcell hb1).1 b 0 hb).trans hk1
  have hk2' : w1.cell? ⟨b, 1, none⟩ = some (.slice a2 n2 c2) := ((bcell hb1).1 b 1 hb).trans hk2
  have hk3' : w1.cell? ⟨b, 2, none⟩ = some (.slice a3 n3 c3) := ((bcell hb1).1 b 2 hb).trans hk3
  have hs1 := hb1.size
  have hc1 : ∀ ad, a1 = some ad → ∀ j u, (xs.map (Value.int .u64))[j]? = some u → w1.cell? (ad.add j) = some u := fun ad h j u hu => cell_mono hb1 (HP1.out ad h j u hu)
  have hc2 : ∀ ad, a2 = some ad → ∀ j u, (ys.map (Value.int .u64))[j]? = some u → w1.cell? (ad.add j) = some u := fun ad h j u hu => cell_mono hb1 (HP2.out ad h j u hu)
  have hc3 : ∀ ad, a3 = some ad → ∀ j u, (zs.map (Value.int .u64))[j]? = some u → w1.cell? (ad.add j) = some u := fun ad h j u hu => cell_mono hb1 (HP3.out ad h j u hu)
  have HC1 := Lib.hid hc1; have HC2 := Lib.hid hc2; have HC3 := Lib.hid hc3
  have HQ2 := HP2
  have HQ3 := HP3
  have HK2 := Lib.hid hk2'
  have HK3 := Lib.hid hk3'
  clear hb1 hown hk1 hk2 hk3 hc1 hc2 hc3 HP1 HP2 HP3 hk2' hk3'
  go_wp2_with fail
  refine wp_loop_rounds 4 ?_
  rw [rounds_succ]
  have g1 : 0 + n1 ≤ n1 + n2 + n3 := by omega
  have g3 : (xs.map (Value.int .u64)).length = n1 := by simp; exact l1
  have g4 : ∀ u ∈ xs.map (Value.int .u64), u.oneCell' = true := fun u hu => by obtain ⟨x, _, rfl⟩ := List.mem_map.1 hu; rfl
  have G1 := Lib.hid g1; have G3 := Lib.hid g3; have G4 := Lib.hid g4; have S1 := Lib.hid hs1
  clear g1 g3 g4
  go_wp2_with (at_builtin; go_must (refine push_room rfl _ _ 23 rfl w.heap.size 22 i0 (Value.int .u64 0) 8 Try.underlying23 hi hz0 hz1 hz2 (by decide) rfl _ 0 (n1 + n2 + n3) [] rfl HO.out a1 n1 c1 (xs.map (Value.int .u64)) rfl G3.out HN1.out HC1.out G4.out G1.out S1.out ?_))
  intro v1 w2 hown hgr
  try simp only [Nat.zero_add, List.nil_append] at hown
  have keepc : ∀ j u, w1.cell? ⟨b, j, none⟩ = some u → w2.cell? ⟨b, j, none⟩ = some u := fun j u hu => by
    rw [World.cell?_of_block (hgr.block b (by omega) (fun h => by have := HO.out.1.lt b h.symm; omega))]; exact hu
  have hk2 : w2.cell? ⟨b, 1, none⟩ = some (.slice a2 n2 c2) := keepc _ _ HK2.out
  have HK3' := Lib.hid (keepc _ _ HK3.out)
  have keepd : ∀ (a : Option Addr) (l : List Int), (∀ ad, a = some ad → ∀ j u, (l.map (Value.int .u64))[j]? = some u → w.cell? (ad.add j) = some u) → (∀ ad, a = some ad → ∀ j u, (l.map (Value.int .u64))[j]? = some u → w1.cell? (ad.add j) = some u) → (∀ ad, a = some ad → ∀ j u, (l.map (Value.int .u64))[j]? = some u → w2.cell? (ad.add j) = some u) := fun a l hq hc ad h j u hu => by
    have h1 := hc ad h j u hu
    have h0 := World.block_lt_of_cell? w _ (hq ad h j u hu)
    have hlt : (ad.add j).block < w1.heap.size := by omega
    rw [World.cell?_of_block (hgr.block _ hlt (fun h => by have := HO.out.1.lt _ h.symm; omega))]; exact h1
  have hc2 := keepd a2 ys HQ2.out HC2.out
  have hc3 := keepd a3 zs HQ3.out HC3.out
  have hB2 : Below w.heap.size w w2 := HB.out.grown hgr hs1 (fun k hk => (HO.out.1.lt k hk).1)
  have g1 : n1 + n2 ≤ n1 + n2 + n3 := by omega
  have g3 : (ys.map (Value.int .u64)).length = n2 := by simp; exact l2
  have g4 : ∀ u ∈ ys.map (Value.int .u64), u.oneCell' = true := fun u hu => by obtain ⟨x, _, rfl⟩ := List.mem_map.1 hu; rfl
  have g5 : w.heap.size ≤ w2.heap.size := hB2.size
  have HB2 := Lib.hid hB2
  have HO2 := Lib.hid hown
  have HC2 := Lib.hid hc2
  have HC3 := Lib.hid hc3
  have G1 := Lib.hid g1; have G3 := Lib.hid g3; have G4 := Lib.hid g4; have S1 := Lib.hid g5
  clear g1 g3 g4 hB2 hown hgr hc2 hc3 keepc keepd
  go_wp2_with fail
  rw [rounds_succ]
  go_wp2_with (at_builtin; go_must (refine push_room rfl _ _ 23 rfl w.heap.size 22 i0 (Value.int .u64 0) 8 Try.underlying23 hi hz0 hz1 hz2 (by decide) rfl _ n1 (n1 + n2 + n3) (xs.map (Value.int .u64)) rfl HO2.out a2 n2 c2 (ys.map (Value.int .u64)) rfl G3.out HN2.out HC2.out G4.out G1.out S1.out ?_))
  intro v2 w3 hown hgr
  have hk3 : w3.cell? ⟨b, 2, none⟩ = some (.slice a3 n3 c3) := by
    rw [World.cell?_of_block (hgr.block b (by omega) (fun h => by have := HO2.out.1.lt b h.symm; omega))]; exact HK3'.out
  have hc3 : ∀ ad, a3 = some ad → ∀ j u, (zs.map (Value.int .u64))[j]? = some u → w3.cell? (ad.add j) = some u := fun ad h j u hu => by
    have h1 := HC3.out ad h j u hu
    have h0 := World.block_lt_of_cell? w _ (HQ3.out ad h j u hu)
    have hlt : (ad.add j).block < w2.heap.size := by have := S1.out; omega
    rw [World.cell?_of_block (hgr.block _ hlt (fun h => by have := HO2.out.1.lt _ h.symm; omega))]; exact h1
  have hB3 : Below w.heap.size w w3 := HB2.out.grown hgr S1.out (fun k hk => (HO2.out.1.lt k hk).1)
  have g1 : n1 + n2 + n3 ≤ n1 + n2 + n3 := Nat.le_refl _
  have g3 : (zs.map (Value.int .u64)).length = n3 := by simp; exact l3
  have g4 : ∀ u ∈ zs.map (Value.int .u64), u.oneCell' = true := fun u hu => by obtain ⟨x, _, rfl⟩ := List.mem_map.1 hu; rfl
  have g5 : w.heap.size ≤ w3.heap.size := hB3.size
  rw [← List.map_append] at hown
  have HB3 := Lib.hid hB3
  have HO3 := Lib.hid hown
  have HC3 := Lib.hid hc3
  have G1 := Lib.hid g1; have G3 := Lib.hid g3; have G4 := Lib.hid g4; have S1 := Lib.hid g5
  clear g1 g3 g4 hB3 hown hgr hc3
  go_wp2_with fail
  rw [rounds_succ]
  go_wp2_with (at_builtin; go_must (refine push_room rfl _ _ 23 rfl w.heap.size 22 i0 (Value.int .u64 0) 8 Try.underlying23 hi hz0 hz1 hz2 (by decide) rfl _ (n1 + n2) (n1 + n2 + n3) ((xs ++ ys).map (Value.int .u64)) rfl HO3.out a3 n3 c3 (zs.map (Value.int .u64)) rfl G3.out HN3.out HC3.out G4.out G1.out S1.out ?_))
  intro v3 w4 hown hgr
  have HB4 := Lib.hid (HB3.out.grown hgr S1.out (fun k hk => (HO3.out.1.lt k hk).1))
  have h9 : w4.ownsRow w.heap.size 22 1 v3 (n1 + n2 + n3) ((xs ++ ys ++ zs).map (Value.int .u64)) := by
    have := hown.1
    simpa only [List.map_append, List.append_assoc] using this
  have HR := Lib.hid h9
  clear hown hgr h9
  go_wp2_with fail
  rw [rounds_succ]
  go_wp2_with fail
  go_ret
  exact ⟨HB4.out, _, rfl, HR.out⟩
end Go.Proofs.Yticodfdonpookaa
