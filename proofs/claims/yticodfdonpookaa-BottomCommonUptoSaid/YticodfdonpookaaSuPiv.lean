/- order2Ordered, medianOrdered[uint64] and fellows: they compute the plain ones. Condition: indices within the row. -/
import Derived.Test.YticodfdonpookaaSuHeap
set_option linter.unusedSimpArgs false
set_option linter.unusedVariables false
set_option maxRecDepth 20000
namespace Go.Proofs.Yticodfdonpookaa.Su
open Go.RowKit Go.Sort
/-- Nothing old has turned; in the new block B stands the count s. -/
def PV (w0 w : World) (B s : Nat) : Prop := (∃ n os, w = grow (Sort.ahead w0 n) os) ∧ w0.heap.size ≤ B ∧ w.cell? ⟨B, 0, none⟩ = some (.int .i64 (s : Int)) ∧ w.frozen? ⟨B, 0, none⟩ = false
theorem PV.holds {w0 w : World} {B s blk off : Nat} {d : Array Int} (h : PV w0 w B s) (h0 : Holds eu w0 blk off d) (hb : blk < w0.heap.size) : Holds eu w blk off d := by
  obtain ⟨⟨n, os, rfl⟩, -⟩ := h
  exact holds_grow _ _ _ _ _ _ (by simpa [Sort.ahead] using hb) (holds_ahead _ _ _ _ _ _ h0)
theorem PV.drewN {w0 w : World} {B s : Nat} (h : PV w0 w B s) (k : Nat) : PV w0 (w.drewN k) B s := by
  obtain ⟨⟨n, os, rfl⟩, h2, h3, h4⟩ := h
  exact ⟨⟨n + k, os, by simp [World.drewN, grow, Sort.ahead, Nat.add_assoc]⟩, h2, h3, h4⟩
theorem PV.put {w0 w : World} {B s : Nat} (h : PV w0 w B s) (t : Nat) : PV w0 (w.setCell ⟨B, 0, none⟩ (.int .i64 (t : Int))) B t := by
  obtain ⟨⟨n, os, rfl⟩, h2, h3, h4⟩ := h
  refine ⟨?_, h2, ?_, ?_⟩
  · rw [setCell_eq, mapBlock_grow_new _ _ _ _ (by simpa [Sort.ahead] using h2)]
    exact ⟨n, _, rfl⟩
  · have := cell_set_self (w := grow (Sort.ahead w0 n) os) (p := ⟨B, 0, none⟩) (v := .int .i64 (t : Int)) (by rw [h3]; rfl)
    exact this
  · rw [setCell_eq, frozen?_mapBlock]; exact h4
set_option maxHeartbeats 1600000 in
theorem ord2_any (blk off cap : Nat) (d : Array Int) (L a b B s : Nat) (w0 w : World) (hH : Holds eu w0 blk off d) (hb : blk < w0.heap.size) (hP : PV w0 w B s) (hL : d.size = L) (ha : a < L) (hbL : b < L) (hL2 : L < 4611686018427387904) (hs : s < 1000) :
    Calls Try.prog 68 #[.slice (some ⟨blk, off, none⟩) L cap, .int .i64 (a : Int), .int .i64 (b : Int), .pointer (some ⟨B, 0, none⟩)] w fun e w' => e = .returned (.tuple #[.int .i64 ((order2 ltInt d a b s).1 : Nat), .int .i64 ((order2 ltInt d a b s).2.1 : Nat)]) ∧ PV w0 w' B (order2 ltInt d a b s).2.2 := by
  have HC := hP.holds hH hb
  obtain ⟨ca, fa⟩ := HC a (by omega)
  obtain ⟨cb, fb⟩ := HC b (by omega)
  have HP := Lib.hid hP
  have HO : Hid (order2 ltInt d a b s = if ltInt d[b]! d[a]! = true then (b, a, s + 1) else (a, b, s)) := rfl
  have hcs := hP.2.2.1
  have hfs := hP.2.2.2
  clear HC hP hH
  generalize d[a]! = x at *
  generalize d[b]! = y at *
  generalize order2 ltInt d a b s = R at *
  have HLF : Hid (∀ (W : World) m, Calls Try.prog 56 #[.int .u64 y, .int .u64 x] (W.drewN m) fun e w' => e = .returned (.bool (ltInt y x)) ∧ ∃ m', w' = W.drewN m') := fun W m => (less_any y x _).mono fun e w' ⟨h1, h2⟩ => ⟨h1, m, h2⟩
  have w1 : IntKind.i64.wrap ((s : Int) + 1) = (s : Int) + 1 := wr64 (by omega)
  cases hl : ltInt y x with
  | true =>
    rw [hl, if_pos rfl] at HO
    rw [hl] at HLF
    clear hl
    go_enter Try.func68, Try.ntmps68
    go_wp2_with fail
    go_quiet ((go_at_call 56; (with_reducible exact HLF.out _ _)))
    go_wp2_with fail
    go_ret2
    rw [HO.out]
    exact ⟨rfl, (HP.out.drewN _).put (s + 1)⟩
  | false =>
    rw [hl, if_neg (by decide)] at HO
    rw [hl] at HLF
    clear hl
    go_enter Try.func68, Try.ntmps68
    go_wp2_with fail
    go_quiet ((go_at_call 56; (with_reducible exact HLF.out _ _)))
    go_wp2_with fail
    go_ret2
    rw [HO.out]
    exact ⟨rfl, HP.out.drewN _⟩
theorem ord2_bd (d : Array Int) (a b s L : Nat) (ha : a < L) (hb : b < L) : (order2 ltInt d a b s).1 < L ∧ (order2 ltInt d a b s).2.1 < L ∧ (order2 ltInt d a b s).2.2 ≤ s + 1 := by
  unfold order2
  split <;> exact ⟨by assumption, by assumption, by simp⟩
set_option maxHeartbeats 1600000 in
theorem med_any (blk off cap : Nat) (d : Array Int) (L a b c B s : Nat) (w0 w : World) (hH : Holds eu w0 blk off d) (hb : blk < w0.heap.size) (hP : PV w0 w B s) (hL : d.size = L) (ha : a < L) (hbL : b < L) (hcL : c < L) (hL2 : L < 4611686018427387904) (hs : s < 900) :
    Calls Try.prog 66 #[.slice (some ⟨blk, off, none⟩) L cap, .int .i64 (a : Int), .int .i64 (b : Int), .int .i64 (c : Int), .pointer (some ⟨B, 0, none⟩)] w fun e w' => e = .returned (.int .i64 ((median ltInt d a b c s).1 : Nat)) ∧ PV w0 w' B (median ltInt d a b c s).2 := by
  have HM : Hid (median ltInt d a b c s = ((order2 ltInt d (order2 ltInt d a b s).1 (order2 ltInt d (order2 ltInt d a b s).2.1 c (order2 ltInt d a b s).2.2).1 (order2 ltInt d (order2 ltInt d a b s).2.1 c (order2 ltInt d a b s).2.2).2.2).2.1, (order2 ltInt d (order2 ltInt d a b s).1 (order2 ltInt d (order2 ltInt d a b s).2.1 c (order2 ltInt d a b s).2.2).1 (order2 ltInt d (order2 ltInt d a b s).2.1 c (order2 ltInt d a b s).2.2).2.2).2.2)) := rfl
  have H1 := Lib.hid (ord2_any blk off cap d L a b B s w0 w hH hb hP hL ha hbL hL2 (by omega))
  obtain ⟨i1, i2, i3⟩ := ord2_bd d a b s L ha hbL
  generalize order2 ltInt d a b s = r1 at *
  obtain ⟨x1, y1, s1⟩ := r1
  simp only at *
  have H2 : Hid (∀ w, PV w0 w B s1 → _) := fun w h => ord2_any blk off cap d L y1 c B s1 w0 w hH hb h hL i2 hcL hL2 (by omega)
  obtain ⟨j1, j2, j3⟩ := ord2_bd d y1 c s1 L i2 hcL
  generalize order2 ltInt d y1 c s1 = r2 at *
  obtain ⟨x2, y2, s2⟩ := r2
  simp only at *
  have H3 : Hid (∀ w, PV w0 w B s2 → _) := fun w h => ord2_any blk off cap d L x1 x2 B s2 w0 w hH hb h hL i1 j1 hL2 (by omega)
  generalize order2 ltInt d x1 x2 s2 = r3 at *
  obtain ⟨x3, y3, s3⟩ := r3
  simp only at *
  clear hH hP
  go_enter Try.func66, Try.ntmps66
  go_wp2_with fail
  refine H1.out.mono ?_
  rintro e w1 ⟨rfl, h1⟩
  have HP1 := Lib.hid (H2.out w1 h1)
  clear h1
  go_wp2_with fail
  refine HP1.out.mono ?_
  rintro e w2 ⟨rfl, h2⟩
  have HP2 := Lib.hid (H3.out w2 h2)
  clear h2
  go_wp2_with fail
  refine HP2.out.mono ?_
  rintro e w3 ⟨rfl, h3⟩
  have HP3 := Lib.hid h3
  clear h3
  go_wp2_with fail
  go_ret
  rw [HM.out]
  exact ⟨rfl, HP3.out⟩
theorem med_bd (d : Array Int) (a b c s L : Nat) (ha : a < L) (hb : b < L) (hc : c < L) : (median ltInt d a b c s).1 < L ∧ (median ltInt d a b c s).2 ≤ s + 3 := by
  obtain ⟨i1, i2, i3⟩ := ord2_bd d a b s L ha hb
  obtain ⟨j1, j2, j3⟩ := ord2_bd d (order2 ltInt d a b s).2.1 c (order2 ltInt d a b s).2.2 L i2 hc
  obtain ⟨k1, k2, k3⟩ := ord2_bd d (order2 ltInt d a b s).1 (order2 ltInt d (order2 ltInt d a b s).2.1 c (order2 ltInt d a b s).2.2).1 (order2 ltInt d (order2 ltInt d a b s).2.1 c (order2 ltInt d a b s).2.2).2.2 L i1 j1
  exact ⟨k2, Nat.le_trans k3 (by omega)⟩
theorem adj_any (blk off cap : Nat) (d : Array Int) (L a B s : Nat) (w0 w : World) (hH : Holds eu w0 blk off d) (hb : blk < w0.heap.size) (hP : PV w0 w B s) (hL : d.size = L) (ha : a + 1 < L) (ha1 : 1 ≤ a) (hL2 : L < 4611686018427387904) (hs : s < 900) :
    Calls Try.prog 65 #[.slice (some ⟨blk, off, none⟩) L cap, .int .i64 (a : Int), .pointer (some ⟨B, 0, none⟩)] w fun e w' => e = .returned (.int .i64 ((medianAdjacent ltInt d a s).1 : Nat)) ∧ PV w0 w' B (medianAdjacent ltInt d a s).2 := by
  obtain ⟨p, hp⟩ : ∃ p, a = p + 1 := ⟨a - 1, by omega⟩
  subst hp
  have H := med_any blk off cap d L p (p + 1) (p + 2) B s w0 w hH hb hP hL (by omega) (by omega) (by omega) hL2 hs
  have HM : Hid (medianAdjacent ltInt d (p + 1) s = median ltInt d p (p + 1) (p + 2) s) := rfl
  generalize medianAdjacent ltInt d (p + 1) s = R at *
  rw [← HM.out] at H
  have H := Lib.hid H
  have e1 : ((p + 1 : Nat) : Int) - 1 = (p : Int) := by omega
  have e2 : ((p + 1 : Nat) : Int) + 1 = ((p + 2 : Nat) : Int) := by omega
  have w1 : IntKind.i64.wrap (p : Int) = (p : Int) := wr64 (by omega)
  have w2 : IntKind.i64.wrap ((p + 2 : Nat) : Int) = ((p + 2 : Nat) : Int) := wr64 (by omega)
  generalize ((p + 1 : Nat) : Int) = x at *
  generalize ((p + 2 : Nat) : Int) = y at *
  clear hH hP
  go_enter Try.func65, Try.ntmps65
  go_wp2_with fail
  refine H.out.mono ?_
  rintro e w1 ⟨rfl, h1⟩
  have HP1 := Lib.hid h1
  clear h1
  go_wp2_with fail
  go_ret
  exact ⟨rfl, HP1.out⟩
end Go.Proofs.Yticodfdonpookaa.Su
