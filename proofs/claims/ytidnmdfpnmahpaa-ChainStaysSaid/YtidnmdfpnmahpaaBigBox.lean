/- Boxes of big numbers: what stands in them, what a call that fills one leaves as it was. No condition. -/
import Derived.Test.YtidnmdfpnmahpaaBigMulL
set_option linter.unusedSimpArgs false
set_option linter.unusedVariables false
set_option maxRecDepth 20000
namespace Go.Proofs.Ytidnmdfpnmahpaa.Big
open Go.RowKit
/-- v reads as the digits of N. -/
def RN (w : World) (v : Value) (N : Nat) : Prop := ∃ ds, Rd w v (castN ds) ∧ Canon ds ∧ val ds = N ∧ ∀ n c, v = .slice none n c → n = 0 ∧ c = 0
def okC (u : Value) : Prop := (∃ x, u = .bool x) ∨ ∃ a n c, u = .slice a n c
/-- A box of m cells: signs and rows. -/
def Box (w : World) (b m : Nat) : Prop := ∃ (cs : Array Value) (t : TypeId), w.heap[b]? = some (.cells cs t (0, 0)) ∧ cs.size = m ∧ ∀ (j : Nat) (u : Value), cs[j]? = some u → okC u
/-- In box b, from o on: the sign and the number. -/
def NA (w : World) (b o : Nat) (ng : Bool) (N : Nat) : Prop := ∃ v, w.cell? ⟨b, o, none⟩ = some (.bool ng) ∧ w.cell? ⟨b, o + 1, none⟩ = some v ∧ RN w v N
structure Put (w w' : World) (b o : Nat) (ng : Bool) (v : Value) : Prop where
  os : w'.os = w.os
  tape : w'.tape = w.tape
  output : w'.output = w.output
  size : w.heap.size ≤ w'.heap.size
  block : ∀ i, i < w.heap.size → i ≠ b → w'.heap[i]? = w.heap[i]?
  here : ∀ (cs : Array Value) (t : TypeId), w.heap[b]? = some (.cells cs t (0, 0)) → w'.heap[b]? = some (.cells ((cs.setIfInBounds o (.bool ng)).setIfInBounds (o + 1) v) t (0, 0))
def PutN (w w' : World) (b o : Nat) (ng : Bool) (N : Nat) : Prop := ∃ v, Put w w' b o ng v ∧ RN w' v N
theorem RN.slice {w : World} {v : Value} {N : Nat} (h : RN w v N) : ∃ a n c, v = .slice a n c := by
  obtain ⟨ds, h1, -⟩ := h
  obtain ⟨a, c, rfl, -⟩ := h1.slice
  exact ⟨_, _, _, rfl⟩
theorem RN.below {w w' : World} {B : Nat} {v : Value} {N : Nat} (h : RN w v N) (hb : Below B w w') (hB : w.heap.size ≤ B) : RN w' v N := by
  obtain ⟨ds, h1, h2⟩ := h
  exact ⟨ds, h1.below hb hB, h2⟩
theorem RN.drewN {w : World} {v : Value} {N : Nat} (h : RN w v N) (k : Nat) : RN (w.drewN k) v N := h.below ((Below.refl w.heap.size w).drewN k) (Nat.le_refl _)
theorem Box.lt {w : World} {b m : Nat} (h : Box w b m) : b < w.heap.size := by
  obtain ⟨cs, t, h, -⟩ := h; exact lt_of_block h
theorem Box.fr {w : World} {b m : Nat} (h : Box w b m) (j : Nat) : w.frozen? ⟨b, j, none⟩ = false := by
  obtain ⟨cs, t, h, -⟩ := h; exact frozen_of_row _ _ _ _ _ h
theorem Box.below {w w' : World} {B b m : Nat} (h : Box w b m) (hb : Below B w w') (hB : b < B) : Box w' b m := by
  obtain ⟨cs, t, h, h2⟩ := h; exact ⟨cs, t, (hb.block b hB).trans h, h2⟩
theorem Box.new (w : World) (t : TypeId) : Box (w.alloc (.cells #[.bool false, .slice none 0 0] t)) w.heap.size 2 := by
  refine ⟨_, _, heap_alloc_new w _, rfl, fun j u hu => ?_⟩
  match j, hu with
  | 0, hu => simp at hu; exact .inl ⟨_, hu.symm⟩
  | 1, hu => simp at hu; exact .inr ⟨_, _, _, hu.symm⟩
theorem Box.new4 (w : World) (t : TypeId) : Box (w.alloc (.cells #[.bool false, .slice none 0 0, .bool false, .slice none 0 0] t)) w.heap.size 4 := by
  refine ⟨_, _, heap_alloc_new w _, rfl, fun j u hu => ?_⟩
  match j, hu with
  | 0, hu => simp at hu; exact .inl ⟨_, hu.symm⟩
  | 1, hu => simp at hu; exact .inr ⟨_, _, _, hu.symm⟩
  | 2, hu => simp at hu; exact .inl ⟨_, hu.symm⟩
  | 3, hu => simp at hu; exact .inr ⟨_, _, _, hu.symm⟩
theorem RN.nil (w : World) : RN w (.slice none 0 0) 0 := ⟨[], Rd.nil w, trivial, rfl, fun n c h => by injection h with _ h1 h2; exact ⟨h1.symm, h2.symm⟩⟩
theorem NA.new (w : World) (t : TypeId) : NA (w.alloc (.cells #[.bool false, .slice none 0 0] t)) w.heap.size 0 false 0 :=
  ⟨.slice none 0 0, by rw [cell_of_row _ _ _ _ _ _ (heap_alloc_new w _)]; rfl, by rw [cell_of_row _ _ _ _ _ _ (heap_alloc_new w _)]; rfl, RN.nil _⟩
theorem NA.new4 (w : World) (t : TypeId) (o : Nat) (ho : o = 0 ∨ o = 2) : NA (w.alloc (.cells #[.bool false, .slice none 0 0, .bool false, .slice none 0 0] t)) w.heap.size o false 0 := by
  rcases ho with rfl | rfl
  · exact ⟨.slice none 0 0, by rw [cell_of_row _ _ _ _ _ _ (heap_alloc_new w _)]; rfl, by rw [cell_of_row _ _ _ _ _ _ (heap_alloc_new w _)]; rfl, RN.nil _⟩
  · exact ⟨.slice none 0 0, by rw [cell_of_row _ _ _ _ _ _ (heap_alloc_new w _)]; rfl, by rw [cell_of_row _ _ _ _ _ _ (heap_alloc_new w _)]; rfl, RN.nil _⟩
theorem NA.lt {w : World} {b o : Nat} {ng : Bool} {N : Nat} (h : NA w b o ng N) : b < w.heap.size := by
  obtain ⟨v, h1, -⟩ := h
  exact World.block_lt_of_cell? w _ h1
theorem NA.below {w w' : World} {b o : Nat} {ng : Bool} {N : Nat} (h : NA w b o ng N) (hb : Below w.heap.size w w') : NA w' b o ng N := by
  have hl := h.lt
  obtain ⟨v, h1, h2, h3⟩ := h
  exact ⟨v, (World.cell?_of_block (hb.block b hl)).trans h1, (World.cell?_of_block (hb.block b hl)).trans h2, h3.below hb (Nat.le_refl _)⟩
theorem NA.drewN {w : World} {b o : Nat} {ng : Bool} {N : Nat} (h : NA w b o ng N) (k : Nat) : NA (w.drewN k) b o ng N := h.below ((Below.refl w.heap.size w).drewN k)
/-- Digits never stand in a box. -/
theorem RN.put {w w' : World} {b m o : Nat} {ng : Bool} {u v : Value} {N : Nat} (h : RN w v N) (hx : Box w b m) (hp : Put w w' b o ng u) : RN w' v N := by
  obtain ⟨ds, ⟨a, cap, rfl, h1, h2, h3⟩, h4, h5, h6⟩ := h
  refine ⟨ds, ⟨a, cap, rfl, h1, h2, ?_⟩, h4, h5, h6⟩
  rcases h3 with h3 | ⟨g, off, rfl, hlt, hc⟩
  · exact .inl h3
  · by_cases hz : castN ds = []
    · exact .inl hz
    · refine .inr ⟨g, off, rfl, Nat.lt_of_lt_of_le hlt hp.size, fun i hi => ?_⟩
      have hne : g ≠ b := fun e => by
        subst e
        have h0 := hc 0 (List.length_pos_iff.2 hz)
        obtain ⟨cs, t, hh, -, hk⟩ := hx
        rw [cell_of_row _ _ _ _ _ _ hh] at h0
        rcases hk _ _ h0 with ⟨x, e⟩ | ⟨_, _, _, e⟩ <;> cases e
      exact (World.cell?_of_block (hp.block g hlt hne)).trans (hc i hi)
theorem NA.put {w w' : World} {b m o xb xo : Nat} {ng nx : Bool} {u : Value} {N : Nat} (h : NA w xb xo nx N) (hx : Box w b m) (hp : Put w w' b o ng u) (hne : xb ≠ b) : NA w' xb xo nx N := by
  have hl := h.lt
  obtain ⟨v, h1, h2, h3⟩ := h
  exact ⟨v, (World.cell?_of_block (hp.block xb hl hne)).trans h1, (World.cell?_of_block (hp.block xb hl hne)).trans h2, h3.put hx hp⟩
theorem NA.put_part {w w' : World} {b m o xo : Nat} {ng nx : Bool} {u : Value} {N : Nat} (h : NA w b xo nx N) (hx : Box w b m) (hp : Put w w' b o ng u) (h1 : xo ≠ o) (h2 : xo + 1 ≠ o) (h3 : xo ≠ o + 1) : NA w' b xo nx N := by
  obtain ⟨v, c1, c2, c3⟩ := h
  obtain ⟨cs, t, hh, hs, hk⟩ := hx
  have hh' := hp.here cs t hh
  rw [cell_of_row _ _ _ _ _ _ hh] at c1 c2
  refine ⟨v, ?_, ?_, c3.put ⟨cs, t, hh, hs, hk⟩ hp⟩
  · rw [cell_of_row _ _ _ _ _ _ hh', Array.getElem?_setIfInBounds_ne (by omega), Array.getElem?_setIfInBounds_ne (by omega)]; exact c1
  · rw [cell_of_row _ _ _ _ _ _ hh', Array.getElem?_setIfInBounds_ne (by omega), Array.getElem?_setIfInBounds_ne (by omega)]; exact c2
theorem Box.put {w w' : World} {b o B M : Nat} {ng : Bool} {u : Value} (h : Box w B M) (hp : Put w w' b o ng u) (hu : ∃ a n c, u = .slice a n c) : Box w' B M := by
  obtain ⟨cs, t, hh, hs, hk⟩ := h
  by_cases e : B = b
  · subst e
    refine ⟨_, t, hp.here cs t hh, by simp [hs], fun j x hx => ?_⟩
    rw [Array.getElem?_setIfInBounds] at hx
    split at hx
    · split at hx
      · cases hx; exact .inr hu
      · cases hx
    · rw [Array.getElem?_setIfInBounds] at hx
      split at hx
      · split at hx
        · cases hx; exact .inl ⟨_, rfl⟩
        · cases hx
      · exact hk j x hx
  · exact ⟨cs, t, (hp.block B (lt_of_block hh) e).trans hh, hs, hk⟩
theorem PutN.at {w w' : World} {b m o : Nat} {ng : Bool} {N : Nat} (h : PutN w w' b o ng N) (hx : Box w b m) (ho : o + 1 < m) : NA w' b o ng N := by
  obtain ⟨v, hp, hr⟩ := h
  obtain ⟨cs, t, hh, hs, hk⟩ := hx
  have hh' := hp.here cs t hh
  refine ⟨v, ?_, ?_, hr⟩
  · rw [cell_of_row _ _ _ _ _ _ hh', Array.getElem?_setIfInBounds_ne (by omega), Array.getElem?_setIfInBounds_self_of_lt (by omega)]
  · rw [cell_of_row _ _ _ _ _ _ hh', Array.getElem?_setIfInBounds_self_of_lt (by simp; omega)]
theorem PutN.box {w w' : World} {b o B M : Nat} {ng : Bool} {N : Nat} (h : PutN w w' b o ng N) (hx : Box w B M) : Box w' B M := by
  obtain ⟨v, hp, hr⟩ := h
  exact hx.put hp hr.slice
theorem PutN.other {w w' : World} {b m o xb xo : Nat} {ng nx : Bool} {N X : Nat} (h : PutN w w' b o ng N) (hx : Box w b m) (hn : NA w xb xo nx X) (hne : xb ≠ b) : NA w' xb xo nx X := by
  obtain ⟨v, hp, hr⟩ := h
  exact hn.put hx hp hne
theorem PutN.part {w w' : World} {b m o xo : Nat} {ng nx : Bool} {N X : Nat} (h : PutN w w' b o ng N) (hx : Box w b m) (hn : NA w b xo nx X) (h1 : xo ≠ o) (h2 : xo + 1 ≠ o) (h3 : xo ≠ o + 1) : NA w' b xo nx X := by
  obtain ⟨v, hp, hr⟩ := h
  exact hn.put_part hx hp h1 h2 h3
theorem PutN.size {w w' : World} {b o : Nat} {ng : Bool} {N : Nat} (h : PutN w w' b o ng N) : w.heap.size ≤ w'.heap.size := by
  obtain ⟨v, hp, hr⟩ := h; exact hp.size
/-- A box that is filled lies past B. -/
theorem Put.below {w w' : World} {b o B : Nat} {ng : Bool} {v : Value} (h : Put w w' b o ng v) (hb : B ≤ b) (hB : B ≤ w.heap.size) : Below B w w' :=
  ⟨h.os, h.tape, h.output, h.size, fun i hi => h.block i (by omega) (by omega)⟩
theorem PutN.below {w w' : World} {b o B : Nat} {ng : Bool} {N : Nat} (h : PutN w w' b o ng N) (hb : B ≤ b) (hB : B ≤ w.heap.size) : Below B w w' := by
  obtain ⟨v, hp, hr⟩ := h; exact hp.below hb hB
/-- The stores themselves, behind what was laid. -/
theorem Put.mk' {w w1 : World} (hb : Below w.heap.size w w1) {b : Nat} (hl : b < w.heap.size) (o : Nat) (ng : Bool) (v : Value) (k : Nat) :
    Put w (((w1.setCell ⟨b, o, none⟩ (.bool ng)).setCell ⟨b, o + 1, none⟩ v).drewN k) b o ng v := by
  refine ⟨hb.os, hb.tape, hb.output, ?_, fun i hi hne => ?_, fun cs t h => ?_⟩
  · have := hb.size
    show w.heap.size ≤ ((w1.setCell ⟨b, o, none⟩ (.bool ng)).setCell ⟨b, o + 1, none⟩ v).heap.size
    simpa using this
  · show ((w1.setCell ⟨b, o, none⟩ (.bool ng)).setCell ⟨b, o + 1, none⟩ v).heap[i]? = _
    rw [Below.heap_setCell _ _ _ _ hne, Below.heap_setCell _ _ _ _ hne]; exact hb.block i hi
  · show ((w1.setCell ⟨b, o, none⟩ (.bool ng)).setCell ⟨b, o + 1, none⟩ v).heap[b]? = _
    exact heap_at_setCell (heap_at_setCell ((hb.block b hl).trans h))
theorem setset (cs : Array Value) (o : Nat) (x x' v v' : Value) : ((((cs.setIfInBounds o x).setIfInBounds (o + 1) v).setIfInBounds o x').setIfInBounds (o + 1) v') = ((cs.setIfInBounds o x').setIfInBounds (o + 1) v') := by
  apply Array.ext_getElem?
  intro i
  simp only [Array.getElem?_setIfInBounds, Array.size_setIfInBounds]
  by_cases e : o + 1 = i
  · simp [e]
  · by_cases e2 : o = i
    · simp [e, e2]
    · simp [e, e2]
theorem Put.trans {w w1 w2 : World} {b o : Nat} {n1 n2 : Bool} {v1 v2 : Value} (h1 : Put w w1 b o n1 v1) (h2 : Put w1 w2 b o n2 v2) : Put w w2 b o n2 v2 :=
  ⟨h2.os.trans h1.os, h2.tape.trans h1.tape, h2.output.trans h1.output, Nat.le_trans h1.size h2.size, fun i hi hne => (h2.block i (Nat.lt_of_lt_of_le hi h1.size) hne).trans (h1.block i hi hne), fun cs t h => by
    rw [h2.here _ t (h1.here cs t h), setset]⟩
theorem Put.pre {w w1 w2 : World} {b o : Nat} {ng : Bool} {v : Value} (hb : Below w.heap.size w w1) (hl : b < w.heap.size) (h : Put w1 w2 b o ng v) : Put w w2 b o ng v :=
  ⟨h.os.trans hb.os, h.tape.trans hb.tape, h.output.trans hb.output, Nat.le_trans hb.size h.size, fun i hi hne => (h.block i (Nat.lt_of_lt_of_le hi hb.size) hne).trans (hb.block i hi), fun cs t hh => h.here cs t ((hb.block b hl).trans hh)⟩
theorem Put.post {w w1 w2 : World} {b o : Nat} {ng : Bool} {v : Value} (h : Put w w1 b o ng v) (hl : b < w.heap.size) (hb : Below w1.heap.size w1 w2) : Put w w2 b o ng v :=
  ⟨hb.os.trans h.os, hb.tape.trans h.tape, hb.output.trans h.output, Nat.le_trans h.size hb.size, fun i hi hne => (hb.block i (Nat.lt_of_lt_of_le hi h.size)).trans (h.block i hi hne), fun cs t hh => (hb.block b (Nat.lt_of_lt_of_le hl h.size)).trans (h.here cs t hh)⟩
theorem PutN.pre {w w1 w2 : World} {b o : Nat} {ng : Bool} {N : Nat} (hb : Below w.heap.size w w1) (hl : b < w.heap.size) (h : PutN w1 w2 b o ng N) : PutN w w2 b o ng N := by
  obtain ⟨v, hp, hr⟩ := h; exact ⟨v, Put.pre hb hl hp, hr⟩
theorem PutN.post {w w1 w2 : World} {b o : Nat} {ng : Bool} {N : Nat} (h : PutN w w1 b o ng N) (hl : b < w.heap.size) (hb : Below w1.heap.size w1 w2) : PutN w w2 b o ng N := by
  obtain ⟨v, hp, hr⟩ := h; exact ⟨v, hp.post hl hb, hr.below hb (Nat.le_refl _)⟩
theorem PutN.trans {w w1 w2 : World} {b o : Nat} {n1 n2 : Bool} {N1 N2 : Nat} (h1 : PutN w w1 b o n1 N1) (h2 : PutN w1 w2 b o n2 N2) : PutN w w2 b o n2 N2 := by
  obtain ⟨v, hp, hr⟩ := h1
  obtain ⟨v', hp', hr'⟩ := h2
  exact ⟨v', hp.trans hp', hr'⟩
end Go.Proofs.Ytidnmdfpnmahpaa.Big
