/- (*Int).Add: what it leaves. Conditions: no more than four digits; of unlike signs the first is no less. -/
import Derived.Test.YtidnmdfpnmahpaaBigLess
set_option linter.unusedSimpArgs false
set_option linter.unusedVariables false
set_option maxRecDepth 20000
namespace Go.Proofs.Ytidnmdfpnmahpaa.Big
open Go.RowKit
theorem RowP.slice {w w' : World} {e : Ending} {V : Nat} (h : RowP w w' e V) : Below w.heap.size w w' := by
  obtain ⟨g, n, ds, -, -, -, -, -, -, h⟩ := h; exact h
theorem len4 {ds : List Nat} {N : Nat} (hc : Canon ds) (hv : val ds = N) (hN : N < 340282366920938463463374607431768211456) : ds.length ≤ 4 := (len_iff hc 4).2 (by rw [hv]; exact hN)
theorem len_le {ds es : List Nat} (hd : Canon ds) (he : Canon es) (h : val ds ≤ val es) : ds.length ≤ es.length := by
  rcases Nat.lt_or_ge es.length ds.length with h1 | h1
  · have := cmp_len he hd h1; omega
  · exact h1
theorem rd_store {w : World} {g n c : Nat} {zs : List Int} (h : Rd w (.slice (some ⟨g, 0, none⟩) n c) zs) {p : Addr} (hp : g ≠ p.block) (u : Value) : Rd (w.setCell p u) (.slice (some ⟨g, 0, none⟩) n c) zs := by
  obtain ⟨a, cap, he, h1, h2, h3⟩ := h
  injection he with he1 he2 he3
  subst he1; subst he2; subst he3
  refine ⟨_, _, rfl, h1, h2, ?_⟩
  rcases h3 with h3 | ⟨b, off, he, hlt, hc⟩
  · exact .inl h3
  · injection he with he
    injection he with e1 e2
    subst e1; subst e2
    exact .inr ⟨g, 0, rfl, by simpa [World.setCell] using hlt, fun i hi => (World.cell?_of_block (Below.heap_setCell _ _ _ _ hp)).trans (hc i hi)⟩
/-- What a call laid, stored and trimmed. -/
theorem store_trim {zb zo m g l : Nat} {ng : Bool} {ds : List Nat} {w w1 : World} (hB : Box w zb m) (ho : zo + 1 < m) (hb : Below w.heap.size w w1) (hg : w.heap.size ≤ g) (hrd : Rd w1 (.slice (some ⟨g, 0, none⟩) l l) (castN ds)) (hwd : Wd ds) :
    Calls Try.prog 46 #[.pointer (some ⟨zb, zo, none⟩)] ((w1.setCell ⟨zb, zo, none⟩ (.bool ng)).setCell ⟨zb, zo + 1, none⟩ (.slice (some ⟨g, 0, none⟩) l l)) fun e w' => e = .returned (.pointer (some ⟨zb, zo, none⟩)) ∧ PutN w w' zb zo (sgT ng (val ds)) (val ds) := by
  have hzl := hB.lt
  exact trim_put zb zo m l l _ ng ds w _ hB ho (Put.mk' hb hzl zo ng _ 0) (rd_store (rd_store hrd (by show g ≠ zb; omega) _) (by show g ≠ zb; omega) _) hwd (fun e => by cases e)
set_option maxHeartbeats 1600000 in
theorem add_same (zb zo m xb xo yb yo : Nat) (ng : Bool) (X Y : Nat) (w : World) (hB : Box w zb m) (ho : zo + 1 < m) (hx : NA w xb xo ng X) (hy : NA w yb yo ng Y) (hX : X < 340282366920938463463374607431768211456) (hY : Y < 340282366920938463463374607431768211456) :
    Calls Try.prog 35 #[.pointer (some ⟨zb, zo, none⟩), .pointer (some ⟨xb, xo, none⟩), .pointer (some ⟨yb, yo, none⟩)] w fun e w' => e = .returned (.pointer (some ⟨zb, zo, none⟩)) ∧ PutN w w' zb zo (sgT ng (X + Y)) (X + Y) := by
  obtain ⟨a, c, ds, c0, c1, hrd, hcn, hv, h1, h2, h3⟩ := hx.open
  obtain ⟨a', c', es, d0, d1, hrd', hcn', hv', h1', h2', h3'⟩ := hy.open
  have hzl := hB.lt
  have f0 := hB.fr zo
  have f1 := hB.fr (zo + 1)
  have hxl := hx.lt
  have hyl := hy.lt
  obtain ⟨cs, t, hh, hs, hk⟩ := hB
  have HBX : Hid (Box w zb m) := ⟨cs, t, hh, hs, hk⟩
  have z0 : w.cell? ⟨zb, zo, none⟩ = some cs[zo] := by rw [cell_of_row _ _ _ _ _ _ hh]; exact Array.getElem?_eq_getElem (by omega)
  have z1 : w.cell? ⟨zb, zo + 1, none⟩ = some cs[zo + 1] := by rw [cell_of_row _ _ _ _ _ _ hh]; exact Array.getElem?_eq_getElem (by omega)
  generalize cs[zo] = u0 at *
  generalize cs[zo + 1] = u1 at *
  have hl4 := len4 hcn hv hX
  have hl4' := len4 hcn' hv' hY
  have HSUM : Hid (∀ w1, Below w.heap.size w w1 → Calls Try.prog 49 #[.slice a ds.length c, .slice a' es.length c'] w1 fun e w' => RowP w1 w' e (X + Y)) := fun w1 hb => by
    rw [← hv, ← hv']
    exact sum_any a a' _ c _ c' ds es w1 (hrd.below hb (Nat.le_refl _)) (hrd'.below hb (Nat.le_refl _)) hcn.wd hcn'.wd hl4 hl4'
  have HAFT : Hid (∀ w1, Below w.heap.size w w1 → (w1.cell? ⟨xb, xo, none⟩ = some (.bool ng) ∧ w1.cell? ⟨xb, xo + 1, none⟩ = some (.slice a ds.length c) ∧ w1.cell? ⟨yb, yo, none⟩ = some (.bool ng) ∧ w1.cell? ⟨yb, yo + 1, none⟩ = some (.slice a' es.length c')) ∧ w1.cell? ⟨zb, zo, none⟩ = some u0 ∧ w1.cell? ⟨zb, zo + 1, none⟩ = some u1 ∧ w1.frozen? ⟨zb, zo, none⟩ = false ∧ w1.frozen? ⟨zb, zo + 1, none⟩ = false) := fun w1 hb =>
    ⟨⟨(World.cell?_of_block (hb.block _ hxl)).trans c0, (World.cell?_of_block (hb.block _ hxl)).trans c1, (World.cell?_of_block (hb.block _ hyl)).trans d0, (World.cell?_of_block (hb.block _ hyl)).trans d1⟩, (World.cell?_of_block (hb.block _ hzl)).trans z0, (World.cell?_of_block (hb.block _ hzl)).trans z1, (World.frozen?_of_block (hb.block _ hzl)).trans f0, (World.frozen?_of_block (hb.block _ hzl)).trans f1⟩
  generalize ds.length = n at *
  generalize es.length = k at *
  have q1 : (ng == ng) = true := by cases ng <;> rfl
  clear hrd hcn hv hrd' hcn' hv' h3 h3' hh hs hk hx hy
  go_enter Try.func35, Try.ntmps35
  go_wp2_with fail
  go_quiet (fail)
  go_wp2_with fail
  go_region_law (go_simp; go_at_call 49; (with_reducible refine (HSUM.out _ ((Below.refl _ _).drewN _)).mono ?_); rintro e w1 ⟨g, l, ds, rfl, hg, hrd, hwd, hvd, hl8, hb1⟩; have hb2 : Below w.heap.size w w1 := ((Below.refl _ _).drewN _).trans (hb1.mono (Nat.le_refl _)); obtain ⟨⟨r0, r1, r2, r3⟩, r4, r5, r6, r7⟩ := HAFT.out _ hb2)
  all_goals
    have HT := Lib.hid (store_trim (ng := ng) HBX.out ho hb2 hg hrd hwd)
    rw [hvd] at HT
    clear hrd hwd hvd hb1 hb2 hg
    go_wp2_with fail
    refine HT.out.mono ?_
    rintro e w' ⟨rfl, h2⟩
    have H2 := Lib.hid h2
    clear h2
    go_wp2_with fail
    go_ret
    exact ⟨rfl, H2.out⟩
set_option maxHeartbeats 1600000 in
theorem add_less (zb zo m xb xo yb yo : Nat) (ng : Bool) (X Y : Nat) (w : World) (hB : Box w zb m) (ho : zo + 1 < m) (hx : NA w xb xo ng X) (hy : NA w yb yo (!ng) Y) (hX : X < 340282366920938463463374607431768211456) (hY : Y ≤ X) :
    Calls Try.prog 35 #[.pointer (some ⟨zb, zo, none⟩), .pointer (some ⟨xb, xo, none⟩), .pointer (some ⟨yb, yo, none⟩)] w fun e w' => e = .returned (.pointer (some ⟨zb, zo, none⟩)) ∧ PutN w w' zb zo (sgT ng (X - Y)) (X - Y) := by
  have HCMP : Hid (∀ q, Calls Try.prog 45 #[.pointer (some ⟨xb, xo, none⟩), .pointer (some ⟨yb, yo, none⟩)] (w.drewN q) fun e w' => e = .returned (.int .i64 (cmpN X Y)) ∧ Below (w.drewN q).heap.size (w.drewN q) w') := fun q => cmp_any xb xo yb yo ng (!ng) X Y (w.drewN q) (hx.drewN q) (hy.drewN q)
  have HCN : Hid (0 ≤ cmpN X Y) := by
    show 0 ≤ _
    unfold cmpN
    rw [if_neg (by omega)]; split <;> decide
  obtain ⟨a, c, ds, c0, c1, hrd, hcn, hv, h1, h2, h3⟩ := hx.open
  obtain ⟨a', c', es, d0, d1, hrd', hcn', hv', h1', h2', h3'⟩ := hy.open
  have hzl := hB.lt
  have f0 := hB.fr zo
  have f1 := hB.fr (zo + 1)
  have hxl := hx.lt
  have hyl := hy.lt
  obtain ⟨cs, t, hh, hs, hk⟩ := hB
  have HBX : Hid (Box w zb m) := ⟨cs, t, hh, hs, hk⟩
  have z0 : w.cell? ⟨zb, zo, none⟩ = some cs[zo] := by rw [cell_of_row _ _ _ _ _ _ hh]; exact Array.getElem?_eq_getElem (by omega)
  have z1 : w.cell? ⟨zb, zo + 1, none⟩ = some cs[zo + 1] := by rw [cell_of_row _ _ _ _ _ _ hh]; exact Array.getElem?_eq_getElem (by omega)
  generalize cs[zo] = u0 at *
  generalize cs[zo + 1] = u1 at *
  have hl4 := len4 hcn hv hX
  have hle := len_le hcn' hcn (by omega)
  have HSUM : Hid (∀ w1, Below w.heap.size w w1 → Calls Try.prog 50 #[.slice a ds.length c, .slice a' es.length c'] w1 fun e w' => RowP w1 w' e (X - Y)) := fun w1 hb => by
    rw [← hv, ← hv']
    exact less_any a a' _ c _ c' ds es w1 (hrd.below hb (Nat.le_refl _)) (hrd'.below hb (Nat.le_refl _)) hcn.wd hcn'.wd hl4 hle (by omega)
  have HAFT : Hid (∀ w1, Below w.heap.size w w1 → (w1.cell? ⟨xb, xo, none⟩ = some (.bool ng) ∧ w1.cell? ⟨xb, xo + 1, none⟩ = some (.slice a ds.length c) ∧ w1.cell? ⟨yb, yo, none⟩ = some (.bool (!ng)) ∧ w1.cell? ⟨yb, yo + 1, none⟩ = some (.slice a' es.length c')) ∧ w1.cell? ⟨zb, zo, none⟩ = some u0 ∧ w1.cell? ⟨zb, zo + 1, none⟩ = some u1 ∧ w1.frozen? ⟨zb, zo, none⟩ = false ∧ w1.frozen? ⟨zb, zo + 1, none⟩ = false) := fun w1 hb =>
    ⟨⟨(World.cell?_of_block (hb.block _ hxl)).trans c0, (World.cell?_of_block (hb.block _ hxl)).trans c1, (World.cell?_of_block (hb.block _ hyl)).trans d0, (World.cell?_of_block (hb.block _ hyl)).trans d1⟩, (World.cell?_of_block (hb.block _ hzl)).trans z0, (World.cell?_of_block (hb.block _ hzl)).trans z1, (World.frozen?_of_block (hb.block _ hzl)).trans f0, (World.frozen?_of_block (hb.block _ hzl)).trans f1⟩
  generalize ds.length = n at *
  generalize es.length = k at *
  clear hrd hcn hv hrd' hcn' hv' h3 h3' hh hs hk hx hy
  have q1 : (ng == !ng) = false := by cases ng <;> rfl
  go_enter Try.func35, Try.ntmps35
  go_wp2_with fail
  go_quiet (fail)
  go_wp2_with fail
  refine (HCMP.out _).mono ?_
  rintro e w1 ⟨rfl, hb1'⟩
  have hb1 : Below w.heap.size w w1 := ((Below.refl _ _).drewN _).trans hb1'
  have hcn := HCN.out
  have q2 : decide (0 ≤ cmpN X Y) = true := decide_eq_true hcn
  generalize cmpN X Y = cv at *
  clear hb1' HCMP HCN
  obtain ⟨⟨p0, p1, p2, p3⟩, p4, p5, p6, p7⟩ := HAFT.out _ hb1
  have HB1 := Lib.hid hb1
  clear c0 c1 d0 d1 z0 z1 f0 f1 hb1
  go_wp2_with fail
  go_region_law (go_simp; go_at_call 50; (with_reducible refine (HSUM.out _ (HB1.out.drew)).mono ?_); rintro e w2 ⟨g, l, ds, rfl, hg, hrd, hwd, hvd, hl8, hb1⟩; have hb2 : Below w.heap.size w w2 := HB1.out.drew.trans (hb1.mono HB1.out.drew.size); have hg2 : w.heap.size ≤ g := Nat.le_trans HB1.out.size hg; obtain ⟨⟨r0, r1, r2, r3⟩, r4, r5, r6, r7⟩ := HAFT.out _ hb2)
  all_goals
    have HT := Lib.hid (store_trim (ng := ng) HBX.out ho hb2 hg2 hrd hwd)
    rw [hvd] at HT
    clear hrd hwd hvd hb1 hb2 hg hg2
    go_wp2_with fail
    refine HT.out.mono ?_
    rintro e w' ⟨rfl, h2⟩
    have H2 := Lib.hid h2
    clear h2
    go_wp2_with fail
    go_ret
    exact ⟨rfl, H2.out⟩
end Go.Proofs.Ytidnmdfpnmahpaa.Big
