/- Small laws on worlds: owned rows over 'Below', a push of one cell, stores into a block of four. No condition. -/
import Derived.Test.YticodfdonpookaaRows
import Derived.WalkKit
import Derived.OneCell
import Derived.Laws.Tables
import Derived.Lib.Hide
import Derived.ProofKit
import Derived.OpenShut
import Derived.Handy
import Derived.WalkSpells
import Derived.WalkLawsBesides
import Derived.BigQuiet
import Derived.Deep.QuietTactic
set_option linter.unusedSimpArgs false
set_option linter.unusedVariables false
set_option maxRecDepth 20000
namespace Go.Proofs.Yticodfdonpookaa
open Go.RowKit

theorem own_below {w w' : World} {base B : Nat} {e : TypeId} {size : Nat} {v : Value} {n : Nat} {xs : List Value} (h : w.ownsRow base e size v n xs) (hb : Below B w w') (hB : w.heap.size ≤ B) : w'.ownsRow base e size v n xs := by
  refine ⟨h.1, ?_⟩
  rcases h.2 with hn | ⟨g, cap, cur, rfl, hbs, hgg, rest⟩
  · exact .inl hn
  · refine .inr ⟨g, cap, cur, rfl, hbs, ?_, rest⟩
    rw [hb.block g (Nat.lt_of_lt_of_le (Array.getElem?_eq_some_iff.1 hgg).1 hB)]
    exact hgg
theorem own_base {w : World} {base base' : Nat} {e : TypeId} {size : Nat} {v : Value} {n : Nat} {xs : List Value} (h : w.ownsRow base e size v n xs) (hb : base' ≤ base) : w.ownsRow base' e size v n xs := by
  refine ⟨h.1, ?_⟩
  rcases h.2 with hn | ⟨g, cap, cur, rfl, hbs, hgg, rest⟩
  · exact .inl hn
  · exact .inr ⟨g, cap, cur, rfl, by omega, hgg, rest⟩
theorem own_drew {w : World} {base : Nat} {e : TypeId} {size : Nat} {v : Value} {n : Nat} {xs : List Value} (h : w.ownsRow base e size v n xs) : w.drew.ownsRow base e size v n xs := h
theorem own_store {w : World} {base : Nat} {e : TypeId} {size : Nat} {v : Value} {n : Nat} {xs : List Value} (h : w.ownsRow base e size v n xs) {a : Addr} (ha : a.block < base) (u : Value) : (w.setCell a u).ownsRow base e size v n xs := by
  refine ⟨h.1, ?_⟩
  rcases h.2 with hn | ⟨g, cap, cur, rfl, hbs, hgg, rest⟩
  · exact .inl hn
  · refine .inr ⟨g, cap, cur, rfl, hbs, ?_, rest⟩
    rw [Below.heap_setCell _ _ _ _ (by omega)]; exact hgg

theorem heap_at_setCell {w : World} {b j : Nat} {cs : Array Value} {t : TypeId} {fr : Nat × Nat} {u : Value} (h : w.heap[b]? = some (.cells cs t fr)) :
    (w.setCell ⟨b, j, none⟩ u).heap[b]? = some (.cells (cs.setIfInBounds j u) t fr) := by
  have hlt := lt_of_block h
  have h' : w.heap[b] = .cells cs t fr := by simpa [Array.getElem?_eq_getElem hlt] using h
  show (w.heap.modify b _)[b]? = _
  rw [Array.getElem?_eq_getElem (by simpa using hlt), Array.getElem_modify_self, h']
  rfl

theorem own_open {w : World} {base : Nat} {e : TypeId} {v : Value} {n : Nat} {xs : List Value} (h : w.ownsRow base e 1 v n xs) (hn : 0 < n) :
    ∃ g cap, v = .slice (some ⟨g, 0, none⟩) n cap ∧ n ≤ cap ∧ cap ≤ maxLen ∧ base ≤ g ∧ g < w.heap.size ∧ (∀ j u, xs[j]? = some u → w.cell? ⟨g, j, none⟩ = some u) := by
  rcases h.2 with ⟨rfl, h0⟩ | ⟨g, cap, cur, rfl, hbs, hgg, h1, h2, h3, h4⟩
  · omega
  · refine ⟨g, cap, rfl, h1, h2, hbs, (Array.getElem?_eq_some_iff.1 hgg).1, fun j u hu => ?_⟩
    rw [cell_of_row w g j cur e (0, 0) hgg]
    rw [← h4, List.getElem?_take] at hu
    split at hu
    · simpa using hu
    · cases hu
theorem bcell {W w1 : World} {B : Nat} (hb : Below B W w1) : (∀ b o, b < B → w1.cell? ⟨b, o, none⟩ = W.cell? ⟨b, o, none⟩) ∧ (∀ b o, b < B → w1.frozen? ⟨b, o, none⟩ = W.frozen? ⟨b, o, none⟩) :=
  ⟨fun b o h => World.cell?_of_block (hb.block b h), fun b o h => World.frozen?_of_block (hb.block b h)⟩
theorem cell_set_self {w : World} {p : Addr} {v : Value} (h : (w.cell? p).isSome = true) : (w.setCell p v).cell? p = some v := by
  obtain ⟨x, hx⟩ := Option.isSome_iff_exists.1 h
  exact World.cell?_setCell_same _ _ _ hx

theorem push {P : Program} {w : World} {ops : Array Oper} {rest : List Oper} {o : Oper} {a : Act} {Q : Exit → Act → World → Prop} (hgd : o.guard = none) (s x : Operand) (t : TypeId)
    (ho : o.op = .call { callee := .builtin .append, args := #[s, x], argTypes := #[t, t] })
    (base : Nat) (e : TypeId) (i : TypeInfo) (z : Value) (bytes : Nat) (ht : P.underlying t = some (.slice e)) (hi : P.info? e = some i) (hz : i.zero = some z)
    (hsize : i.size = 1) (hby : i.bytes = bytes) (hzs : z.cells.size = 1)
    (v : Value) (n : Nat) (xs : List Value) (hs : a.eval s = v) (hown : w.ownsRow base e 1 v n xs)
    (u : Value) (b : Nat) (hx : a.eval x = .slice (some ⟨b, 0, none⟩) 1 1) (hbl : b = w.heap.size) (h1 : u.oneCell' = true)
    (hb8 : bytes ≤ 8) (h63 : n + 1 ≤ 17592186044416) (hbase : base ≤ w.heap.size)
    (h : ∀ v' w', w'.ownsRow base e 1 v' (n + 1) (xs ++ [u]) → (w.alloc (.cells #[u] e)).grownBy w' v.ownBlock → wpList P ops Q rest (a.put o.dst v') w') :
    wpList P ops Q (o :: rest) a (w.alloc (.cells #[u] e)) := by
  subst hbl
  refine wpList_append_own _ hgd s x t ho base e i z 1 bytes ht hi hz hsize hby hzs (by decide) v n xs hs (hown.alloc _) ⟨w.heap.size, 0, none⟩ 1 1 [u] hx rfl ?_ ?_ ?_ ?_ ?_ ?_
  · intro j u' hj
    match j, hj with
    | 0, hj => simp at hj; subst hj; simp [Addr.add]
  · intro u' hu'; simp at hu'; subst hu'; exact h1
  · unfold maxLen; omega
  · have := Nat.mul_le_mul (Nat.le_refl (n + 1)) hb8; omega
  · simp; omega
  · intro v' w' ho' hg _; exact h v' w' ho' hg

theorem grown_block {w w' : World} {base : Nat} {e : TypeId} {size : Nat} {v : Value} {n : Nat} {xs : List Value} {o : Obj} (hg : (w.alloc o).grownBy w' v.ownBlock) (hown : w.ownsRow base e size v n xs)
    {b : Nat} (hb : b < base) (hlt : b < w.heap.size) : w'.heap[b]? = w.heap[b]? := by
  rw [hg.block b (by simp; omega) (fun h => by have := hown.lt b h.symm; omega)]
  exact Below.heap_alloc _ _ _ hlt
theorem grown_below {w0 w w' : World} {base B : Nat} {e : TypeId} {size : Nat} {v : Value} {n : Nat} {xs : List Value} {o : Obj} (hg : (w.alloc o).grownBy w' v.ownBlock) (hown : w.ownsRow base e size v n xs)
    (h : Below B w0 w) (hB : B ≤ base) (hBs : B ≤ w.heap.size) : Below B w0 w' :=
  (h.alloc hBs o).grown hg (by simp; omega) (fun k hk => by have := hown.lt k hk; omega)
theorem grown_size {w w' : World} {r : Option Nat} {o : Obj} (hg : (w.alloc o).grownBy w' r) : w.heap.size + 1 ≤ w'.heap.size := by
  have := hg.size; simp at this; omega

theorem _root_.Go.RowKit.Below.drewN {B : Nat} {a w : World} (h : Below B a w) (n : Nat) : Below B a (w.drewN n) := ⟨h.os, h.tape, h.output, h.size, h.block⟩
theorem own_set {w : World} {base g n cap : Nat} {e : TypeId} {k : IntKind} {c : List Int} (h : w.ownsRow base e 1 (.slice (some ⟨g, 0, none⟩) n cap) n (c.map (Value.int k))) (j : Nat) (x : Int) :
    (w.setCell ⟨g, j, none⟩ (.int k x)).ownsRow base e 1 (.slice (some ⟨g, 0, none⟩) n cap) n ((c.set j x).map (Value.int k)) := by
  have := (h.stored j (.int k x)).1
  rwa [← List.map_set] at this
theorem own_get {w : World} {base g n cap : Nat} {e : TypeId} {k : IntKind} {c : List Int} (h : w.ownsRow base e 1 (.slice (some ⟨g, 0, none⟩) n cap) n (c.map (Value.int k))) (j : Nat) (hj : j < n) :
    w.cell? ⟨g, j, none⟩ = some (.int k (c.getD j 0)) := by
  have hl : c.length = n := by have := h.1; simpa using this
  rw [h.cellAt j (by omega), List.getElem?_map, List.getD_eq_getElem?_getD, List.getElem?_eq_getElem (by omega)]
  simp
theorem own_lt {w : World} {base g n cap : Nat} {e : TypeId} {xs : List Value} (h : w.ownsRow base e 1 (.slice (some ⟨g, 0, none⟩) n cap) n xs) : base ≤ g ∧ g < w.heap.size := h.lt g rfl
theorem zeros_eq (n : Nat) (k : IntKind) : (madeCells #[Value.int k 0] n).toList = (List.replicate n (0 : Int)).map (Value.int k) := by
  rw [List.map_replicate]
  exact toList_madeCells_one _ _
theorem count_take_succ (T : List Int) (i : Nat) (x : Int) (hi : i < T.length) : ((T.take (i + 1)).count x : Int) = ((T.take i).count x : Int) + if T.getD i 0 = x then 1 else 0 := by
  rw [List.take_add_one, List.count_append, List.getElem?_eq_getElem hi, List.getD_eq_getElem?_getD, List.getElem?_eq_getElem hi]
  simp [List.count_singleton]
  split <;> simp
/-- A table of counts, one step on. -/
def Counts (c : List Int) (T : List Int) (i n : Nat) : Prop := c.length = n ∧ ∀ k : Nat, k < n → c.getD k 0 = ((T.take i).count (k : Int) : Int)
theorem Counts.zero (T : List Int) (n : Nat) : Counts (List.replicate n 0) T 0 n := ⟨by simp, fun k hk => by simp [List.getD_eq_getElem?_getD, List.getElem?_replicate, hk]⟩
theorem Counts.step {c T : List Int} {i n k : Nat} (h : Counts c T i n) (hi : i < T.length) (hk : T.getD i 0 = (k : Int)) (hkn : k < n) : Counts (c.set k (c.getD k 0 + 1)) T (i + 1) n := by
  refine ⟨by simpa using h.1, fun j hj => ?_⟩
  rw [count_take_succ T i _ hi, hk]
  by_cases e : j = k
  · subst e
    rw [← h.2 j hj]
    simp [List.getD_eq_getElem?_getD, List.getElem?_set, h.1, hj]
  · rw [← h.2 j hj]
    rw [if_neg (by omega)]
    simp [List.getD_eq_getElem?_getD, List.getElem?_set, Ne.symm e, fun h : k = j => e h.symm]
theorem Counts.bd {c T : List Int} {i n k : Nat} (h : Counts c T i n) (hk : k < n) : 0 ≤ c.getD k 0 ∧ c.getD k 0 ≤ T.length := by
  rw [h.2 k hk]
  have := List.count_le_length (a := (k : Int)) (l := T.take i)
  have h2 : (T.take i).length ≤ T.length := by rw [List.length_take]; omega
  omega
/-! ### Slices of int that are read -/
/-- v is a slice whose elements read as the numbers zs. -/
def Rd (w : World) (v : Value) (zs : List Int) : Prop :=
  ∃ a cap, v = .slice a zs.length cap ∧ zs.length ≤ cap ∧ cap ≤ maxLen ∧
    (zs = [] ∨ ∃ b off, a = some ⟨b, off, none⟩ ∧ b < w.heap.size ∧ ∀ i, i < zs.length → w.cell? ⟨b, off + i, none⟩ = some (.int .u64 (zs.getD i 0)))
theorem Rd.open {w : World} {v : Value} {zs : List Int} (h : Rd w v zs) : ∃ a cap, v = .slice a zs.length cap ∧ zs.length ≤ cap ∧ cap ≤ 9223372036854775807 ∧
    (∀ i, i < zs.length → ∃ b off, a = some ⟨b, off, none⟩ ∧ b < w.heap.size ∧ ∀ i, i < zs.length → w.cell? ⟨b, off + i, none⟩ = some (.int .u64 (zs.getD i 0))) := by
  obtain ⟨a, cap, rfl, h1, h2, h3⟩ := h
  refine ⟨a, cap, rfl, h1, by unfold maxLen at h2; exact h2, fun i hi => ?_⟩
  rcases h3 with rfl | h3
  · simp at hi
  · exact h3
theorem Rd.mk {w : World} {a : Option Addr} {zs : List Int} {n cap : Nat} (hn : zs.length = n) (h1 : n ≤ cap) (h2 : cap ≤ maxLen)
    (h : ∀ i, i < n → ∃ b off, a = some ⟨b, off, none⟩ ∧ b < w.heap.size ∧ ∀ i, i < n → w.cell? ⟨b, off + i, none⟩ = some (.int .u64 (zs.getD i 0))) : Rd w (.slice a n cap) zs := by
  subst hn
  refine ⟨a, cap, rfl, h1, h2, ?_⟩
  by_cases h0 : 0 < zs.length
  · exact .inr (h 0 h0)
  · exact .inl (List.length_eq_zero_iff.1 (by omega))
theorem Rd.below {w w' : World} {B : Nat} {v : Value} {zs : List Int} (h : Rd w v zs) (hb : Below B w w') (hB : w.heap.size ≤ B) : Rd w' v zs := by
  obtain ⟨a, cap, rfl, h1, h2, h3⟩ := h
  refine ⟨a, cap, rfl, h1, h2, ?_⟩
  rcases h3 with h3 | ⟨b, off, rfl, hlt, hc⟩
  · exact .inl h3
  · exact .inr ⟨b, off, rfl, Nat.lt_of_lt_of_le hlt hb.size, fun i hi => (World.cell?_of_block (w := w) (hb.block b (by omega))).trans (hc i hi)⟩
theorem Rd.drew {w : World} {v : Value} {zs : List Int} (h : Rd w v zs) : Rd w.drew v zs := h
theorem Rd.alloc {w : World} {v : Value} {zs : List Int} (h : Rd w v zs) (o : Obj) : Rd (w.alloc o) v zs := h.below ((Below.refl _ _).alloc (Nat.le_refl _) o) (Nat.le_refl _)
theorem Rd.nil (w : World) : Rd w (.slice none 0 0) [] := ⟨none, 0, rfl, Nat.le_refl _, Nat.zero_le _, .inl rfl⟩
theorem Rd.own {w : World} {base : Nat} {e : TypeId} {v : Value} {n : Nat} {zs : List Int} (h : w.ownsRow base e 1 v n (zs.map (Value.int .u64))) : Rd w v zs := by
  have hl : zs.length = n := by have := h.1; simpa using this
  by_cases h0 : 0 < n
  · obtain ⟨g, cap, rfl, h1, h2, _, h4, h5⟩ := own_open h h0
    refine Rd.mk hl h1 h2 fun i hi => ⟨g, 0, rfl, h4, fun i hi => ?_⟩
    rw [Nat.zero_add]
    exact h5 i _ (by rw [List.getElem?_map, List.getD_eq_getElem?_getD, List.getElem?_eq_getElem (by omega)]; rfl)
  · have hz : zs = [] := List.length_eq_zero_iff.1 (by omega)
    subst hz
    simp at hl; subst hl
    rcases h.2 with ⟨rfl, _⟩ | ⟨g, cap, cur, rfl, _, _, h1, h2, _⟩
    · exact Rd.nil w
    · exact Rd.mk rfl h1 h2 fun i hi => by omega
theorem Rd.built (w : World) (zs : List Int) (cs : Array Value) (e : TypeId) (hcs : cs = (zs.map (Value.int .u64)).toArray) (n : Nat) (hn : zs.length = n) (hm : n ≤ maxLen) : Rd (w.alloc (.cells cs e)) (.slice (some ⟨w.heap.size, 0, none⟩) n n) zs := by
  subst hcs
  refine Rd.mk hn (Nat.le_refl _) hm fun i hi => ⟨_, 0, rfl, by simp, fun i hi => ?_⟩
  rw [Nat.zero_add, cell_of_row _ _ _ _ _ _ (heap_alloc_new w _)]
  simp [List.getD_eq_getElem?_getD, List.getElem?_eq_getElem (show i < zs.length by omega)]
/-- WHAT THE WALK IS TOLD OF A SLICE OF INTEGERS THAT CAME IN. -/
def IsRow (k : IntKind) (w : World) (a : Option Addr) (len cap : Nat) (zs : List Int) : Prop :=
  (a = none ∧ len = 0 ∧ cap = 0 ∧ zs = []) ∨
  ∃ x, a = some x ∧ len ≤ cap ∧ cap ≤ maxLen ∧ zs.length = cap ∧ (∀ i, i < zs.length → w.cell? (x.add i) = some (.int k (zs.getD i 0))) ∧ ∀ n ∈ zs, (Lit.int k n).wf = true
theorem IsRow.rd {w : World} {a : Option Addr} {len cap : Nat} {zs : List Int} (h : IsRow .u64 w a len cap zs) : Rd w (.slice a len cap) (zs.take len) ∧ (∀ n ∈ zs.take len, 0 ≤ n ∧ n ≤ 18446744073709551615) := by
  rcases h with ⟨rfl, rfl, rfl, rfl⟩ | ⟨x, rfl, h1, h2, h3, h4, h5⟩
  · exact ⟨Rd.nil w, by simp⟩
  · have hl : (zs.take len).length = len := by rw [List.length_take]; omega
    refine ⟨Rd.mk hl h1 h2 fun i hi => ?_, fun n hn => bounds_u64 (h5 n (List.mem_of_mem_take hn))⟩
    obtain ⟨b, off, rfl, hc⟩ := ints_at h4 (by omega)
    refine ⟨b, off, rfl, World.block_lt_of_cell? w _ (hc 0 (by omega)), fun i hi => ?_⟩
    rw [hc i (by omega)]
    congr 2
    simp [List.getD_eq_getElem?_getD, List.getElem?_take, hi]
end Go.Proofs.Yticodfdonpookaa
