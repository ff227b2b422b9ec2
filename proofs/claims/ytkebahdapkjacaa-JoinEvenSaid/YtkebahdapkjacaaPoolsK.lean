/- How things lie in join.Pools, and what its steps do to them. No condition. -/
import Derived.Test.YtkebahdapkjacaaPools
import Derived.Maps.AppendAt
set_option linter.unusedSimpArgs false
set_option linter.unusedVariables false
namespace Go.Proofs.Ytkebahdapkjacaa
open Go.RowKit
theorem push_at {P : Program} {w : World} {ops : Array Oper} {rest : List Oper} {o : Oper} {a : Act} {Q : Exit → Act → World → Prop} (hgd : o.guard = none) (s x : Operand) (t : TypeId)
    (ho : o.op = .call { callee := .builtin .append, args := #[s, x], argTypes := #[t, t] })
    (base : Nat) (e : TypeId) (i : TypeInfo) (z : Value) (bytes : Nat) (ht : P.underlying t = some (.slice e)) (hi : P.info? e = some i) (hz : i.zero = some z)
    (hsize : i.size = 1) (hby : i.bytes = bytes) (hzs : z.cells.size = 1)
    (v : Value) (n : Nat) (xs : List Value) (hs : a.eval s = v) (hown : w.ownsRow base e 1 v n xs)
    (u : Value) (b : Nat) (hx : a.eval x = .slice (some ⟨b, 0, none⟩) 1 1) (hbl : b = w.heap.size) (h1 : u.oneCell' = true)
    (hb8 : bytes ≤ 8) (h63 : n + 1 ≤ 17592186044416) (hbase : base ≤ w.heap.size)
    (h : ∀ v' w', w'.ownsRow base e 1 v' (n + 1) (xs ++ [u]) → (w.alloc (.cells #[u] e)).grownBy w' v.ownBlock → (v'.ownBlock = v.ownBlock ∨ v'.ownBlock = some (w.heap.size + 1)) → wpList P ops Q rest (a.put o.dst v') w') :
    wpList P ops Q (o :: rest) a (w.alloc (.cells #[u] e)) := by
  subst hbl
  refine wpList_append_own_at _ hgd s x t ho base e i z 1 bytes ht hi hz hsize hby hzs (by decide) v n xs hs (hown.alloc _) ⟨w.heap.size, 0, none⟩ 1 1 [u] hx rfl ?_ ?_ ?_ ?_ ?_ ?_
  · intro j u' hj
    match j, hj with
    | 0, hj => simp at hj; subst hj; simp [Addr.add]
  · intro u' hu'; simp at hu'; subst hu'; exact h1
  · unfold maxLen; omega
  · have := Nat.mul_le_mul (Nat.le_refl (n + 1)) hb8; omega
  · simp; omega
  · intro v' w' ho' hg _ hat; exact h v' w' ho' hg (by simpa using hat)
/-- What a row of two slices is, behind the cut. -/
def TwoR (B : Nat) (w4 wx : World) (Hb : Nat) (v0 v1 : Value) (n0 n1 : Nat) (l0 l1 : List Int) : Prop :=
  wx.heap[Hb]? = some (.cells #[v0, v1] 48 (0, 0)) ∧ B ≤ Hb ∧ wx.ownsRow B 3 1 v0 n0 (l0.map (Value.int .i64)) ∧ wx.ownsRow B 3 1 v1 n1 (l1.map (Value.int .i64)) ∧ Below B w4 wx ∧
    (∀ g, v0.ownBlock = some g → g ≠ Hb ∧ v1.ownBlock ≠ some g) ∧ (∀ g, v1.ownBlock = some g → g ≠ Hb)
theorem set2_0 {w : World} {b : Nat} {v0 v1 : Value} (h : w.heap[b]? = some (.cells #[v0, v1] 48 (0, 0))) (u : Value) : (w.setCell ⟨b, 0, none⟩ u).heap[b]? = some (.cells #[u, v1] 48 (0, 0)) := by
  have := heap_at_setCell (j := 0) (u := u) h
  simpa using this
theorem set2_1 {w : World} {b : Nat} {v0 v1 : Value} (h : w.heap[b]? = some (.cells #[v0, v1] 48 (0, 0))) (u : Value) : (w.setCell ⟨b, 1, none⟩ u).heap[b]? = some (.cells #[v0, u] 48 (0, 0)) := by
  have := heap_at_setCell (j := 1) (u := u) h
  simpa using this
theorem own_ne {w : World} {B n b : Nat} {e : TypeId} {v : Value} {xs : List Value} (h : w.ownsRow B e 1 v n xs) (hne : ∀ g, v.ownBlock = some g → g ≠ b) (j : Nat) (u : Value) : (w.setCell ⟨b, j, none⟩ u).ownsRow B e 1 v n xs := by
  refine ⟨h.1, ?_⟩
  rcases h.2 with hn | ⟨g, cap, cur, rfl, hbs, hgg, rest⟩
  · exact .inl hn
  · exact .inr ⟨g, cap, cur, rfl, hbs, (Below.heap_setCell w _ u g (hne g rfl)).trans hgg, rest⟩
theorem two_late {w4 w5 w6 : World} {a5 a6 : Option Addr} {n0 n1 k5 k6 : Nat} {l0 l1 : List Int} (hB5 : Below w4.heap.size w4 w5) (ho5 : w5.ownsRow w4.heap.size 3 1 (.slice a5 n0 k5) n0 (l0.map (Value.int .i64))) (hb6 : Below w5.heap.size w5 w6) (ho6 : w6.ownsRow w5.heap.size 3 1 (.slice a6 n1 k6) n1 (l1.map (Value.int .i64))) :
    TwoR w4.heap.size w4 (w6.alloc (.cells #[.slice a5 n0 k5, .slice a6 n1 k6] 48)) w6.heap.size (.slice a5 n0 k5) (.slice a6 n1 k6) n0 n1 l0 l1 := by
  have s5 := hB5.size
  have s6 := hb6.size
  refine ⟨heap_alloc_new w6 _, by omega, (own_below ho5 hb6 (Nat.le_refl _)).alloc _, (own_base ho6 s5).alloc _, (hB5.trans (hb6.mono s5)).alloc (by omega) _, fun g hg => ?_, fun g hg => ?_⟩
  · have h1 := ho5.lt g hg
    refine ⟨by omega, fun h => ?_⟩
    have h2 := ho6.lt g h
    omega
  · have h2 := ho6.lt g hg
    omega
theorem two_set {w4 w5 w6 : World} {a5 a6 : Option Addr} {n0 n1 k5 k6 Q : Nat} {l0 l1 : List Int} {S T : Nat} (hQ : w4.heap.size ≤ Q) (hB6 : Below w4.heap.size w4 w6) (hZ : w6.heap[Q]? = some (.cells #[.slice none 0 0, .slice none 0 0] 48 (0, 0)))
    (ho5 : w6.ownsRow w4.heap.size 3 1 (.slice a5 n0 k5) n0 (l0.map (Value.int .i64))) (ho6 : w6.ownsRow w4.heap.size 3 1 (.slice a6 n1 k6) n1 (l1.map (Value.int .i64)))
    (h5 : ∀ g, (Value.slice a5 n0 k5).ownBlock = some g → g ≠ Q ∧ (Value.slice a6 n1 k6).ownBlock ≠ some g) (h6 : ∀ g, (Value.slice a6 n1 k6).ownBlock = some g → g ≠ Q) :
    TwoR w4.heap.size w4 ((w6.setCell ⟨Q, 0, none⟩ (.slice a5 n0 k5)).setCell ⟨Q, 1, none⟩ (.slice a6 n1 k6)) Q (.slice a5 n0 k5) (.slice a6 n1 k6) n0 n1 l0 l1 :=
  ⟨set2_1 (set2_0 hZ _) _, hQ, own_ne (own_ne ho5 (fun g hg => (h5 g hg).1) _ _) (fun g hg => (h5 g hg).1) _ _, own_ne (own_ne ho6 h6 _ _) h6 _ _, (hB6.setCell hQ _).setCell hQ _, h5, h6⟩
theorem own_slice {w : World} {base n : Nat} {e : TypeId} {v : Value} {zs : List Int} (h : w.ownsRow base e 1 v n (zs.map (Value.int .i64))) : ∃ a k, v = .slice a n k := by
  obtain ⟨a, k, hv, -⟩ := (Rd.own h).slice
  have : zs.length = n := by have := h.1; simpa using this
  exact ⟨a, k, by rw [hv, this]⟩
/-- How things lie at a round's head. -/
structure LP (B O Hb Z : Nat) (ra cc : Int) (w wr : World) (t : St) (vo v0 v1 : Value) : Prop where
  ob : BX wr O ra cc vo
  lb : wr.heap[O + 1]? = some (.cells #[.int .i64 (t.l0 : Nat), .int .i64 (t.l1 : Nat)] 46 (0, 0))
  hb : wr.heap[Hb]? = some (.cells #[v0, v1] 48 (0, 0))
  bh : B ≤ Hb
  oo : wr.ownsRow B 3 1 vo t.o.length (t.o.map (Value.int .i64))
  o0 : wr.ownsRow B 3 1 v0 t.h0.length (t.h0.map (Value.int .i64))
  o1 : wr.ownsRow B 3 1 v1 t.h1.length (t.h1.map (Value.int .i64))
  s0 : ∀ g, v0.ownBlock = some g → g ≠ Hb ∧ v1.ownBlock ≠ some g ∧ vo.ownBlock ≠ some g
  s1 : ∀ g, v1.ownBlock = some g → g ≠ Hb ∧ vo.ownBlock ≠ some g
  so : ∀ g, vo.ownBlock = some g → g ≠ Hb
  zb : BX wr Z 0 0 (.slice none 0 0)
  below : Below w.heap.size w wr
theorem free_of_row (w : World) (b j : Nat) (cs : Array Value) (t : TypeId) (h : w.heap[b]? = some (.cells cs t (0, 0))) : w.frozen? ⟨b, j, none⟩ = false := by simp [World.frozen?, h]
theorem LP.push {B O Hb Z : Nat} {ra cc : Int} {w wr w6 : World} {t : St} {vo v0 v1 vo' : Value} {y : Int} {u : Value} {e : TypeId} (h : LP B O Hb Z ra cc w wr t vo v0 v1) (hO : O + 1 < B) (hZ : Z < B) (hZO : Z ≠ O) (hw : w.heap.size ≤ O) (hB : B ≤ wr.heap.size)
    (ho : w6.ownsRow B 3 1 vo' (t.o.length + 1) (t.o.map (Value.int .i64) ++ [.int .i64 y])) (hg : (wr.drew.alloc (.cells #[u] e)).grownBy w6 vo.ownBlock) (hat : vo'.ownBlock = vo.ownBlock ∨ vo'.ownBlock = some (wr.heap.size + 1)) :
    LP B O Hb Z ra cc w (w6.setCell ⟨O, 2, none⟩ vo') ⟨t.l0, t.l1, t.h0, t.h1, t.o ++ [y]⟩ vo' v0 v1 := by
  have hb : Below B wr w6 := undrew (grown_below hg (w := wr.drew) (v := vo) h.oo (Below.refl _ _) (Nat.le_refl _) hB)
  have hbw : w.heap.size ≤ B := by omega
  have hHb : Hb < wr.heap.size := lt_of_block h.hb
  have hsz : wr.heap.size + 1 ≤ w6.heap.size := by have := hg.size; simp at this; omega
  have hH6 : w6.heap[Hb]? = some (.cells #[v0, v1] 48 (0, 0)) := by
    rw [hg.block Hb (by simp; omega) (fun hh => h.so Hb hh.symm rfl)]
    exact (Below.heap_alloc _ _ _ hHb).trans h.hb
  have k0 : w6.ownsRow B 3 1 v0 t.h0.length (t.h0.map (Value.int .i64)) := by
    refine World.ownsRow.kept (World.ownsRow.alloc (w := wr.drew) h.o0 _) hg ?_
    rcases hlb : v0.ownBlock with _ | g
    · exact .inl rfl
    · exact .inr (fun hh => (h.s0 g hlb).2.2 hh.symm)
  have k1 : w6.ownsRow B 3 1 v1 t.h1.length (t.h1.map (Value.int .i64)) := by
    refine World.ownsRow.kept (World.ownsRow.alloc (w := wr.drew) h.o1 _) hg ?_
    rcases hlb : v1.ownBlock with _ | g
    · exact .inl rfl
    · exact .inr (fun hh => (h.s1 g hlb).2 hh.symm)
  refine ⟨(h.ob.below hb (by omega)).set2 _, ?_, ?_, h.bh, ?_, own_store k0 (by show O < B; omega) _, own_store k1 (by show O < B; omega) _, fun g hg0 => ⟨(h.s0 g hg0).1, (h.s0 g hg0).2.1, fun hh => ?_⟩, fun g hg1 => ⟨(h.s1 g hg1).1, fun hh => ?_⟩, fun g hgo => ?_, (h.zb.below hb hZ).other (fun hh => hZO hh.symm) _, (h.below.trans (hb.mono hbw)).setCell hw _⟩
  · exact (Below.heap_setCell _ _ _ _ (by simp)).trans ((hb.block _ hO).trans h.lb)
  · exact (Below.heap_setCell _ _ _ _ (by have := h.bh; show Hb ≠ O; omega)).trans hH6
  · have := own_store ho (a := ⟨O, 2, none⟩) (by show O < B; omega) vo'
    simpa using this
  · rcases hat with e' | e'
    · rw [e'] at hh; exact (h.s0 g hg0).2.2 hh
    · rw [e'] at hh; cases hh
      have := (h.o0.lt _ hg0).2
      omega
  · rcases hat with e' | e'
    · rw [e'] at hh; exact (h.s1 g hg1).2 hh
    · rw [e'] at hh; cases hh
      have := (h.o1.lt _ hg1).2
      omega
  · rcases hat with e' | e'
    · rw [e'] at hgo; exact h.so g hgo
    · rw [e'] at hgo; cases hgo
      omega
theorem LP.drew {B O Hb Z : Nat} {ra cc : Int} {w wr : World} {t : St} {vo v0 v1 : Value} (h : LP B O Hb Z ra cc w wr t vo v0 v1) : LP B O Hb Z ra cc w wr.drew t vo v0 v1 :=
  ⟨h.ob, h.lb, h.hb, h.bh, h.oo, h.o0, h.o1, h.s0, h.s1, h.so, h.zb, h.below.drew⟩
theorem LP.del0 {B O Hb Z : Nat} {ra cc : Int} {w wr w7 : World} {t : St} {vo v1 : Value} {g n c : Nat} {j : Nat} (h : LP B O Hb Z ra cc w wr t vo (.slice (some ⟨g, 0, none⟩) n c) v1) (hO : O + 1 < B) (hZ : Z < B) (hw : w.heap.size ≤ O)
    (ho : w7.ownsRow B 3 1 (.slice (some ⟨g, 0, none⟩) (n - 1) c) (n - 1) ((t.h0.eraseIdx j).map (Value.int .i64))) (hg : wr.grownBy w7 (some g)) :
    LP B O Hb Z ra cc w (w7.setCell ⟨Hb, 0, none⟩ (.slice (some ⟨g, 0, none⟩) (n - 1) c)) ⟨t.l0, t.l1, t.h0.eraseIdx j, t.h1, t.o⟩ vo (.slice (some ⟨g, 0, none⟩) (n - 1) c) v1 := by
  have hgB : B ≤ g := (h.o0.lt g rfl).1
  have hb : Below B wr w7 := ⟨hg.os, hg.tape, hg.output, hg.size, fun i hi => by
    by_cases hl : i < wr.heap.size
    · exact hg.block i hl (by simp; omega)
    · exact absurd (show i < wr.heap.size by have := (h.o0.lt g rfl).2; omega) hl⟩
  have hHb : Hb < wr.heap.size := lt_of_block h.hb
  have hne : Hb ≠ g := fun e => (h.s0 g rfl).1 e.symm
  have hH7 : w7.heap[Hb]? = some (.cells #[.slice (some ⟨g, 0, none⟩) n c, v1] 48 (0, 0)) := (hg.block Hb hHb (by simpa using hne)).trans h.hb
  have k1 : w7.ownsRow B 3 1 v1 t.h1.length (t.h1.map (Value.int .i64)) := by
    refine World.ownsRow.kept h.o1 hg ?_
    rcases hlb : v1.ownBlock with _ | g'
    · exact .inl rfl
    · exact .inr (fun hh => by cases hh; exact (h.s0 g rfl).2.1 hlb)
  have ko : w7.ownsRow B 3 1 vo t.o.length (t.o.map (Value.int .i64)) := by
    refine World.ownsRow.kept h.oo hg ?_
    rcases hlb : vo.ownBlock with _ | g'
    · exact .inl rfl
    · exact .inr (fun hh => by cases hh; exact (h.s0 g rfl).2.2 hlb)
  have hln : (t.h0.eraseIdx j).length = n - 1 := by have := ho.1; simpa using this
  refine ⟨(h.ob.below hb (by omega)).other (by have := h.bh; show Hb ≠ O; omega) _, ?_, set2_0 hH7 _, h.bh, own_ne ko (fun g' hg' => h.so g' hg') _ _, ?_, own_ne k1 (fun g' hg' => (h.s1 g' hg').1) _ _, fun g' hg' => h.s0 g' hg', h.s1, h.so, (h.zb.below hb hZ).other (by have := h.bh; show Hb ≠ Z; omega) _, (h.below.trans (hb.mono (by omega))).setCell (by have := h.bh; show _ ≤ Hb; omega) _⟩
  · exact (Below.heap_setCell _ _ _ _ (by have := h.bh; show O + 1 ≠ Hb; omega)).trans ((hb.block _ hO).trans h.lb)
  · show (w7.setCell _ _).ownsRow B 3 1 _ (t.h0.eraseIdx j).length _
    rw [hln]
    exact own_ne ho (fun g' hg' => by cases hg'; exact fun e => hne e.symm) _ _
theorem LP.del1 {B O Hb Z : Nat} {ra cc : Int} {w wr w7 : World} {t : St} {vo v0 : Value} {g n c : Nat} {j : Nat} (h : LP B O Hb Z ra cc w wr t vo v0 (.slice (some ⟨g, 0, none⟩) n c)) (hO : O + 1 < B) (hZ : Z < B) (hw : w.heap.size ≤ O)
    (ho : w7.ownsRow B 3 1 (.slice (some ⟨g, 0, none⟩) (n - 1) c) (n - 1) ((t.h1.eraseIdx j).map (Value.int .i64))) (hg : wr.grownBy w7 (some g)) :
    LP B O Hb Z ra cc w (w7.setCell ⟨Hb, 1, none⟩ (.slice (some ⟨g, 0, none⟩) (n - 1) c)) ⟨t.l0, t.l1, t.h0, t.h1.eraseIdx j, t.o⟩ vo v0 (.slice (some ⟨g, 0, none⟩) (n - 1) c) := by
  have hgB : B ≤ g := (h.o1.lt g rfl).1
  have hb : Below B wr w7 := ⟨hg.os, hg.tape, hg.output, hg.size, fun i hi => by
    by_cases hl : i < wr.heap.size
    · exact hg.block i hl (by simp; omega)
    · exact absurd (show i < wr.heap.size by have := (h.o1.lt g rfl).2; omega) hl⟩
  have hHb : Hb < wr.heap.size := lt_of_block h.hb
  have hne : Hb ≠ g := fun e => (h.s1 g rfl).1 e.symm
  have hH7 : w7.heap[Hb]? = some (.cells #[v0, .slice (some ⟨g, 0, none⟩) n c] 48 (0, 0)) := (hg.block Hb hHb (by simpa using hne)).trans h.hb
  have k0 : w7.ownsRow B 3 1 v0 t.h0.length (t.h0.map (Value.int .i64)) := by
    refine World.ownsRow.kept h.o0 hg ?_
    rcases hlb : v0.ownBlock with _ | g'
    · exact .inl rfl
    · exact .inr (fun hh => by cases hh; exact (h.s0 g hlb).2.1 rfl)
  have ko : w7.ownsRow B 3 1 vo t.o.length (t.o.map (Value.int .i64)) := by
    refine World.ownsRow.kept h.oo hg ?_
    rcases hlb : vo.ownBlock with _ | g'
    · exact .inl rfl
    · exact .inr (fun hh => by cases hh; exact (h.s1 g rfl).2 hlb)
  have hln : (t.h1.eraseIdx j).length = n - 1 := by have := ho.1; simpa using this
  refine ⟨(h.ob.below hb (by omega)).other (by have := h.bh; show Hb ≠ O; omega) _, ?_, set2_1 hH7 _, h.bh, own_ne ko (fun g' hg' => h.so g' hg') _ _, own_ne k0 (fun g' hg' => (h.s0 g' hg').1) _ _, ?_, fun g' hg' => h.s0 g' hg', h.s1, h.so, (h.zb.below hb hZ).other (by have := h.bh; show Hb ≠ Z; omega) _, (h.below.trans (hb.mono (by omega))).setCell (by have := h.bh; show _ ≤ Hb; omega) _⟩
  · exact (Below.heap_setCell _ _ _ _ (by have := h.bh; show O + 1 ≠ Hb; omega)).trans ((hb.block _ hO).trans h.lb)
  · show (w7.setCell _ _).ownsRow B 3 1 _ (t.h1.eraseIdx j).length _
    rw [hln]
    exact own_ne ho (fun g' hg' => by cases hg'; exact fun e => hne e.symm) _ _
theorem LP.left0 {B O Hb Z : Nat} {ra cc : Int} {w wr : World} {t : St} {vo v0 v1 : Value} (h : LP B O Hb Z ra cc w wr t vo v0 v1) (hO : O + 1 < B) (hZO : Z ≠ O + 1) (hw : w.heap.size ≤ O) (x : Nat) :
    LP B O Hb Z ra cc w (wr.setCell ⟨O + 1, 0, none⟩ (.int .i64 (x : Nat))) ⟨x, t.l1, t.h0, t.h1, t.o⟩ vo v0 v1 := by
  refine ⟨h.ob.other (by simp) _, ?_, (Below.heap_setCell _ _ _ _ (by have := h.bh; show Hb ≠ O + 1; omega)).trans h.hb, h.bh, own_store h.oo hO _, own_store h.o0 hO _, own_store h.o1 hO _, h.s0, h.s1, h.so, h.zb.other (fun e => hZO e.symm) _, h.below.setCell (by show _ ≤ O + 1; omega) _⟩
  have := heap_at_setCell (j := 0) (u := .int .i64 (x : Nat)) h.lb
  simpa using this
theorem LP.left1 {B O Hb Z : Nat} {ra cc : Int} {w wr : World} {t : St} {vo v0 v1 : Value} (h : LP B O Hb Z ra cc w wr t vo v0 v1) (hO : O + 1 < B) (hZO : Z ≠ O + 1) (hw : w.heap.size ≤ O) (x : Nat) :
    LP B O Hb Z ra cc w (wr.setCell ⟨O + 1, 1, none⟩ (.int .i64 (x : Nat))) ⟨t.l0, x, t.h0, t.h1, t.o⟩ vo v0 v1 := by
  refine ⟨h.ob.other (by simp) _, ?_, (Below.heap_setCell _ _ _ _ (by have := h.bh; show Hb ≠ O + 1; omega)).trans h.hb, h.bh, own_store h.oo hO _, own_store h.o0 hO _, own_store h.o1 hO _, h.s0, h.s1, h.so, h.zb.other (fun e => hZO e.symm) _, h.below.setCell (by show _ ≤ O + 1; omega) _⟩
  have := heap_at_setCell (j := 1) (u := .int .i64 (x : Nat)) h.lb
  simpa using this
end Go.Proofs.Ytkebahdapkjacaa
