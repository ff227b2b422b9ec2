/- (*Int).Cmp of two alike: what it leaves. Condition: the two are the same, not below nought. -/
import Derived.Test.YtidnmdfpnmahpaaBigRatCmp
import Derived.BigRegion
set_option linter.unusedSimpArgs false
set_option linter.unusedVariables false
set_option maxRecDepth 20000
namespace Go.Proofs.Ytidnmdfpnmahpaa.Big
open Go.RowKit
theorem icmp_same (xb yb : Nat) (X : Nat) (w : World) (hx : NA w xb 0 false X) (hy : NA w yb 0 false X) :
    Calls Try.prog 28 #[.pointer (some ⟨xb, 0, none⟩), .pointer (some ⟨yb, 0, none⟩)] w fun e w' => e = .returned (.int .i64 0) ∧ Below w.heap.size w w' := by
  have HCMP : Hid (∀ w1, Below w.heap.size w w1 → Calls Try.prog 45 #[.pointer (some ⟨xb, 0, none⟩), .pointer (some ⟨yb, 0, none⟩)] w1 fun e w' => e = .returned (.int .i64 0) ∧ Below w.heap.size w w') := fun w1 hb => by
    refine (cmp_any xb 0 yb 0 false false X X w1 (hx.below hb) (hy.below hb)).mono ?_
    rintro e w' ⟨rfl, h⟩
    refine ⟨?_, hb.trans (h.mono hb.size)⟩
    unfold cmpN
    rw [if_neg (by omega), if_neg (by omega)]
  have HAFT : Hid (∀ w1, Below w.heap.size w w1 → w1.cell? ⟨xb, 0, none⟩ = some (.bool false)) := fun w1 hb => by
    obtain ⟨v, h1, -⟩ := hx.below hb
    exact h1
  have HBR := Lib.hid (Below.refl w.heap.size w)
  obtain ⟨a, c, ds, c0, c1, -⟩ := hx.open
  obtain ⟨a', c', es, d0, d1, -⟩ := hy.open
  generalize ds.length = n at *
  generalize es.length = k at *
  clear hx hy
  go_enter Try.func28, Try.ntmps28
  go_wp2_with fail
  go_quiet (fail)
  go_wp2_with fail
  refine (HCMP.out _ (HBR.out.drewN _)).mono ?_
  rintro e w' ⟨rfl, h⟩
  have HB := Lib.hid h
  clear h
  go_wp2_with fail
  go_ret
  exact ⟨rfl, HB.out⟩
end Go.Proofs.Ytidnmdfpnmahpaa.Big
