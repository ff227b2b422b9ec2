/- Slices of slices of ints that are read; a read slice appended to a row of the call's own. No condition. -/
import Derived.Test.YtidnmdfpnmahpaaGen
set_option linter.unusedSimpArgs false
set_option linter.unusedVariables false
set_option maxRecDepth 20000
namespace Go.Proofs.Ytidnmdfpnmahpaa
open Go.RowKit
def RdM (w : World) (v : Value) (zss : List (List Int)) : Prop :=
  ∃ a cap, v = .slice a zss.length cap ∧ zss.length ≤ cap ∧ cap ≤ maxLen ∧
    (zss = [] ∨ ∃ (b off : Nat) (U : Nat → Value), a = some ⟨b, off, none⟩ ∧ b < w.heap.size ∧ ∀ i, i < zss.length → w.cell? ⟨b, off + i, none⟩ = some (U i) ∧ Rd w (U i) (zss.getD i []))
theorem RdM.open {w : World} {v : Value} {zss : List (List Int)} (h : RdM w v zss) : ∃ a cap, v = .slice a zss.length cap ∧ zss.length ≤ cap ∧ cap ≤ 9223372036854775807 ∧
    (0 < zss.length → ∃ (b off : Nat) (U : Nat → Value), a = some ⟨b, off, none⟩ ∧ b < w.heap.size ∧ ∀ i, i < zss.length → w.cell? ⟨b, off + i, none⟩ = some (U i) ∧ Rd w (U i) (zss.getD i [])) := by
  obtain ⟨a, cap, rfl, h1, h2, h3⟩ := h
  refine ⟨a, cap, rfl, h1, by unfold maxLen at h2; exact h2, fun hi => ?_⟩
  rcases h3 with rfl | h3
  · simp at hi
  · exact h3
theorem RdM.below {w w' : World} {B : Nat} {v : Value} {zss : List (List Int)} (h : RdM w v zss) (hb : Below B w w') (hB : w.heap.size ≤ B) : RdM w' v zss := by
  obtain ⟨a, cap, rfl, h1, h2, h3⟩ := h
  refine ⟨a, cap, rfl, h1, h2, ?_⟩
  rcases h3 with h3 | ⟨b, off, U, rfl, hlt, hc⟩
  · exact .inl h3
  · exact .inr ⟨b, off, U, rfl, Nat.lt_of_lt_of_le hlt hb.size, fun i hi => ⟨(World.cell?_of_block (w := w) (hb.block b (by omega))).trans (hc i hi).1, (hc i hi).2.below hb hB⟩⟩
theorem RdM.alloc {w : World} {v : Value} {zss : List (List Int)} (h : RdM w v zss) (o : Obj) : RdM (w.alloc o) v zss := h.below ((Below.refl _ _).alloc (Nat.le_refl _) o) (Nat.le_refl _)
theorem RdM.mk {w : World} {a : Option Addr} {zss : List (List Int)} {n cap : Nat} (hn : zss.length = n) (h1 : n ≤ cap) (h2 : cap ≤ maxLen)
    (h : 0 < n → ∃ (b off : Nat) (U : Nat → Value), a = some ⟨b, off, none⟩ ∧ b < w.heap.size ∧ ∀ i, i < n → w.cell? ⟨b, off + i, none⟩ = some (U i) ∧ Rd w (U i) (zss.getD i [])) : RdM w (.slice a n cap) zss := by
  subst hn
  refine ⟨a, cap, rfl, h1, h2, ?_⟩
  by_cases h0 : 0 < zss.length
  · exact .inr (h h0)
  · exact .inl (List.length_eq_zero_iff.1 (by omega))
theorem push_list {P : Program} {w : World} {ops : Array Oper} {rest : List Oper} {o : Oper} {a : Act} {Q : Exit → Act → World → Prop} (hgd : o.guard = none) (s x : Operand) (t : TypeId)
    (ho : o.op = .call { callee := .builtin .append, args := #[s, x], argTypes := #[t, t] })
    (base : Nat) (e : TypeId) (i : TypeInfo) (z : Value) (bytes : Nat) (ht : P.underlying t = some (.slice e)) (hi : P.info? e = some i) (hz : i.zero = some z)
    (hsize : i.size = 1) (hby : i.bytes = bytes) (hb8 : bytes ≤ 8) (hzs : z.cells.size = 1)
    (v : Value) (n : Nat) (xs : List Value) (hs : a.eval s = v) (hown : w.ownsRow base e 1 v n xs)
    (ao : Option Addr) (m c : Nat) (news : List Value) (hx : a.eval x = .slice ao m c) (hn : news.length = m) (hnone : ao = none → m = 0 ∧ c = 0)
    (hc : ∀ ad, ao = some ad → ∀ j u, news[j]? = some u → w.cell? (ad.add j) = some u) (h1c : ∀ u ∈ news, u.oneCell' = true)
    (h63 : n + m ≤ 17592186044416) (hbase : base ≤ w.heap.size)
    (h : ∀ v' w', w'.ownsRow base e 1 v' (n + m) (xs ++ news) → w.grownBy w' v.ownBlock → wpList P ops Q rest (a.put o.dst v') w') :
    wpList P ops Q (o :: rest) a w := by
  cases ao with
  | some ad =>
    refine wpList_append_own _ hgd s x t ho base e i z 1 bytes ht hi hz hsize hby hzs (by decide) v n xs hs hown ad m c news hx (by omega) (hc ad rfl) h1c (by unfold maxLen; omega) ?_ hbase fun v' w' h1 h2 _ => h v' w' h1 h2
    have := Nat.mul_le_mul (Nat.le_refl (n + m)) hb8; omega
  | none =>
    obtain ⟨rfl, rfl⟩ := hnone rfl
    have hnews : news = [] := List.eq_nil_of_length_eq_zero hn
    subst hnews
    refine wpList_plain hgd fun K hK' => ?_
    have hrun := run_append_owned_none (P := P) (w := w) base t o.type e i 1 ht hi v n xs hown
    unfold Oper.wp
    simp [execOp, ho, resolve, invoke, builtin, hs, hx, hrun, Result.andThen]
    exact hK' _ _ (h _ w (by simpa using hown) (World.grownBy.refl _ _))
end Go.Proofs.Ytidnmdfpnmahpaa
