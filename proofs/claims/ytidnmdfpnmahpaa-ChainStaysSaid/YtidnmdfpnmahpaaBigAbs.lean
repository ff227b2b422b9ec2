/- (*Int).Abs, Neg: what they leave. No condition but that the number is not endless. -/
import Derived.Test.YtidnmdfpnmahpaaBigSet
set_option linter.unusedSimpArgs false
set_option linter.unusedVariables false
set_option maxRecDepth 20000
namespace Go.Proofs.Ytidnmdfpnmahpaa.Big
open Go.RowKit
theorem PutN.resign {w w1 : World} {b m o : Nat} {ng : Bool} {N : Nat} (h : PutN w w1 b o ng N) (hB : Box w b m) (ho : o + 1 < m) (n2 : Bool) (k : Nat) : PutN w ((w1.setCell ⟨b, o, none⟩ (.bool n2)).drewN k) b o n2 N := by
  obtain ⟨v, hp, hr⟩ := h
  obtain ⟨c0, c1⟩ := hp.cells hB ho
  have h2 := Put.sign (ng := n2) (Below.refl w1.heap.size w1) (Nat.lt_of_lt_of_le hB.lt hp.size) c1 k
  exact ⟨v, hp.trans h2, hr.put (hB.put hp hr.slice) h2⟩
theorem abs_any (zb zo m xb xo : Nat) (nx : Bool) (X : Nat) (w : World) (hB : Box w zb m) (ho : zo + 1 < m) (hx : NA w xb xo nx X) (hne : xb ≠ zb) (hX : X < 340282366920938463463374607431768211456) :
    Calls Try.prog 38 #[.pointer (some ⟨zb, zo, none⟩), .pointer (some ⟨xb, xo, none⟩)] w fun e w' => e = .returned (.pointer (some ⟨zb, zo, none⟩)) ∧ PutN w w' zb zo false X := by
  have HS := Lib.hid (set_any zb zo m xb xo nx X w hB ho hx hne hX)
  have HB := Lib.hid hB
  clear hB hx
  go_enter Try.func38, Try.ntmps38
  go_wp2_with fail
  refine HS.out.mono ?_
  rintro e w1 ⟨rfl, h1⟩
  have H1 := Lib.hid h1
  have hb1 := h1.box HB.out
  have f0 := hb1.fr zo
  obtain ⟨v, c0, c1, -⟩ := h1.at HB.out ho
  clear h1 hb1 c1
  go_wp2_with fail
  go_ret
  exact ⟨rfl, H1.out.resign HB.out ho false 0⟩
theorem neg_any (zb zo m xb xo : Nat) (nx : Bool) (X : Nat) (w : World) (hB : Box w zb m) (ho : zo + 1 < m) (hx : NA w xb xo nx X) (hne : xb ≠ zb) (hX : X < 340282366920938463463374607431768211456) :
    Calls Try.prog 48 #[.pointer (some ⟨zb, zo, none⟩), .pointer (some ⟨xb, xo, none⟩)] w fun e w' => e = .returned (.pointer (some ⟨zb, zo, none⟩)) ∧ PutN w w' zb zo (!nx && decide (X ≠ 0)) X := by
  have HS := Lib.hid (set_any zb zo m xb xo nx X w hB ho hx hne hX)
  have HB := Lib.hid hB
  clear hB hx
  go_enter Try.func48, Try.ntmps48
  go_wp2_with fail
  refine HS.out.mono ?_
  rintro e w1 ⟨rfl, h1⟩
  have H1 := Lib.hid h1
  have hb1 := h1.box HB.out
  have f0 := hb1.fr zo
  obtain ⟨a, c, ds, c0, c1, hrd, hcn, hv, h2, h3, h4⟩ := (h1.at HB.out ho).open
  have hz := len_zero hcn
  rw [hv] at hz
  generalize ds.length = n at *
  clear h1 hb1 hrd hcn hv h4
  cases nx
  · by_cases hX0 : X = 0
    · obtain rfl : n = 0 := hz.2 hX0
      have HX0 := Lib.hid hX0
      clear hz hX0
      go_wp2_with fail
      go_ret
      refine ⟨rfl, ?_⟩
      have := H1.out.resign HB.out ho false 0
      rwa [show (!false && decide (X ≠ 0)) = false by simp [HX0.out]]
    · have hn0 : 0 < n := by have : n ≠ 0 := fun e => hX0 (hz.1 e); omega
      have q1 : decide ((0 : Int) < (n : Int)) = true := decide_eq_true (by omega)
      have q2 : decide (0 < n) = true := decide_eq_true hn0
      have HX0 := Lib.hid hX0
      clear hz hX0
      go_wp2_with fail
      go_ret
      refine ⟨rfl, ?_⟩
      have := H1.out.resign HB.out ho true 0
      rwa [show (!false && decide (X ≠ 0)) = true by simp [HX0.out]]
  · clear hz
    go_wp2_with fail
    go_ret
    refine ⟨rfl, ?_⟩
    have := H1.out.resign HB.out ho false 0
    rwa [show (!true && decide (X ≠ 0)) = false from rfl]
end Go.Proofs.Ytidnmdfpnmahpaa.Big
