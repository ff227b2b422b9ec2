/- Append of one number at a step of a region that draws. No condition. -/
import Derived.Test.YtidnmdfpnmahpaaStep
set_option linter.unusedSimpArgs false
set_option linter.unusedVariables false
set_option maxRecDepth 20000
namespace Go.Proofs.Ytidnmdfpnmahpaa
open Go.RowKit
theorem step_push {w : World} {ops : Array Oper} {o : Oper} {a : Act} {K : Act → World → Prop} {Q : Exit → Act → World → Prop} {E : Prop} (hgd : o.guard = none) (s x : Operand)
    (ho : o.op = .call { callee := .builtin .append, args := #[s, x], argTypes := #[24, 24] })
    (base : Nat) (v : Value) (n : Nat) (xs : List Int) (hs : a.eval s = v) (hown : w.ownsRow base 3 1 v n (xs.map (Value.int .i64)))
    (u : Int) (b : Nat) (hx : a.eval x = .slice (some ⟨b, 0, none⟩) 1 1) (hbl : b = w.heap.size)
    (h63 : n + 1 ≤ 17592186044416) (hbase : base ≤ w.heap.size)
    (h : ∀ v' w', w'.ownsRow base 3 1 v' (n + 1) ((xs ++ [u]).map (Value.int .i64)) → (w.alloc (.cells #[.int .i64 u] 3)).grownBy w' v.ownBlock → K (a.put o.dst v') w') :
    if Region.wanted o (yielded ops a.tmps) = true then Oper.wp Try.prog o a (w.alloc (.cells #[.int .i64 u] 3)) K Q else E := by
  subst hbl
  obtain ⟨i, hi, hz0, hz1, hz2⟩ := info_parts Try.info3t
  obtain ⟨v', w', hr, h2, h3⟩ := run_list (P := Try.prog) (w := w.alloc (.cells #[.int .i64 u] 3)) 24 o.type base 3 i (.int .i64 0) 8 Try.underlying24 hi hz0 hz1 hz2 (by decide) rfl v n _ (hown.alloc _) (some ⟨w.heap.size, 0, none⟩) 1 1 [.int .i64 u] rfl (fun h => by cases h) (by
    intro ad had j u' hj
    cases had
    match j, hj with
    | 0, hj => simp at hj; subst hj; simp [Addr.add]) (by intro u' hu'; simp at hu'; subst hu'; rfl) (by omega) (by simp; omega)
  exact step_run hgd s x 24 ho v _ hs hx v' w' hr (h v' w' (by rw [List.map_append]; exact h2) h3)
end Go.Proofs.Ytidnmdfpnmahpaa
