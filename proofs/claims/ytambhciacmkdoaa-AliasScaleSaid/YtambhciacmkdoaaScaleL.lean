/- AliasScale: the plain law. No condition. -/
import Derived.Test.YtambhciacmkdoaaAliasTwoW
set_option linter.unusedSimpArgs false
set_option linter.unusedVariables false
namespace Go.Proofs.Ytambhciacmkdoaa.aliasScale
open Go.RowKit Go.Proofs.Ytambhciacmkdoaa
def scl (b : Nat) (s : St) : St := ⟨fun k => b * s.L k, s.D, fun k => b * s.V k, s.T⟩
theorem low_scl {b : Nat} (hb : 0 < b) (S : Nat) (s : St) : lowp (b * S) (scl b s).L (scl b s).D = lowp S s.L s.D := by
  funext k
  unfold lowp scl
  simp only
  congr 1
  exact decide_eq_decide.2 (Nat.mul_lt_mul_left hb)
theorem high_scl {b : Nat} (hb : 0 < b) (S : Nat) (s : St) : highp (b * S) (scl b s).L (scl b s).D = highp S s.L s.D := by
  funext k
  unfold highp scl
  simp only
  congr 1
  exact decide_eq_decide.2 (Nat.mul_lt_mul_left hb)
theorem lo_scl {b : Nat} (hb : 0 < b) (n S : Nat) (s : St) : loF n (b * S) (scl b s) = loF n S s := by unfold loF; rw [low_scl hb]
theorem hi_scl {b : Nat} (hb : 0 < b) (n S : Nat) (s : St) : hiF n (b * S) (scl b s) = hiF n S s := by unfold hiF; rw [high_scl hb]
theorem upd_scl (b : Nat) (f : Nat → Nat) (i x : Nat) : upd (fun k => b * f k) i (b * x) = fun k => b * upd f i x k := by
  funext k
  unfold upd
  split <;> rfl
theorem nxt_scl {b : Nat} (hb : 0 < b) (n S : Nat) (s : St) : nxt n (b * S) (scl b s) = scl b (nxt n S s) := by
  unfold nxt
  rw [lo_scl hb, hi_scl hb]
  unfold scl
  simp only
  rw [← Nat.mul_sub, ← Nat.mul_sub, upd_scl, upd_scl]
theorem run_scl {b : Nat} (hb : 0 < b) (n S : Nat) : ∀ (m : Nat) (s : St), run n (b * S) m (scl b s) = scl b (run n S m s)
  | 0, s => rfl
  | m + 1, s => by
    rw [run, run, lo_scl hb, hi_scl hb, nxt_scl hb]
    split
    · rfl
    · exact run_scl hb n S m _
theorem fin_scl {b : Nat} (hb : 0 < b) (n S : Nat) (f : Nat → Nat) : fin n (b * S) (fun k => f k * b) = scl b (fin n S f) := by
  unfold fin
  rw [← run_scl hb]
  congr 1
  unfold st0 scl
  simp only
  congr 1
  funext k
  rw [Nat.mul_comm (f k) b, Nat.mul_assoc]
/-- The list times b, up to the i-th. -/
def mm (zs : List Int) (b : Int) (i : Nat) : List Int := (List.range zs.length).map fun k => if k < i then wrap64 (zs.getD k 0 * b) else zs.getD k 0
theorem mm_len (zs : List Int) (b : Int) (i : Nat) : (mm zs b i).length = zs.length := by simp [mm]
theorem mm_get (zs : List Int) (b : Int) (i : Nat) {k : Nat} (h : k < zs.length) : (mm zs b i).getD k 0 = if k < i then wrap64 (zs.getD k 0 * b) else zs.getD k 0 := by
  simp [mm, List.getD_eq_getElem?_getD, List.getElem?_map, List.getElem?_range, h]
theorem list_ext {xs ys : List Int} (h : xs.length = ys.length) (e : ∀ k, k < xs.length → xs.getD k 0 = ys.getD k 0) : xs = ys := by
  apply List.ext_getElem h
  intro i h1 h2
  have := e i h1
  simpa [List.getD_eq_getElem?_getD, h1, h2] using this
theorem mm_zero (zs : List Int) (b : Int) : mm zs b 0 = zs := list_ext (mm_len _ _ _) fun k hk => by
  rw [mm_len] at hk
  rw [mm_get _ _ _ hk, if_neg (Nat.not_lt_zero k)]
theorem mm_step (zs : List Int) (b : Int) {i : Nat} (hi : i < zs.length) : (mm zs b i).set i (wrap64 (zs.getD i 0 * b)) = mm zs b (i + 1) := list_ext (by simp [mm_len]) fun k hk => by
  simp only [List.length_set, mm_len] at hk
  rw [mm_get _ _ _ hk, List.getD_eq_getElem?_getD, List.getElem?_set]
  by_cases e : i = k
  · subst e
    rw [if_pos rfl, if_pos (by rw [mm_len]; exact hk), if_pos (Nat.lt_succ_self i)]; rfl
  · rw [if_neg e, ← List.getD_eq_getElem?_getD, mm_get _ _ _ hk]
    by_cases e2 : k < i
    · rw [if_pos e2, if_pos (by omega)]
    · rw [if_neg e2, if_neg (by omega)]
/-- Of weights that may be: the list times b, its sum, and what Make has of it. -/
theorem mm_ok {zs : List Int} (hk : OkW zs) {b : Nat} (hb : b ≤ 20) : (nd (mm zs b zs.length)) = fun k => nd zs k * b := by
  funext k
  by_cases h : k < zs.length
  · have e := mm_get zs (b : Int) zs.length h
    rw [if_pos h, hk.nd h] at e
    have h1 := hk.le k
    have h2 := Nat.mul_le_mul h1 hb
    unfold nd at h2 e ⊢
    rw [e]
    have : ((zs.getD k 0).toNat : Int) * (b : Int) = (((zs.getD k 0).toNat * b : Nat) : Int) := rfl
    rw [this]
    unfold wrap64
    omega
  · rw [nd_out (by rw [mm_len]; omega), nd_out (by omega), Nat.zero_mul]
end Go.Proofs.Ytambhciacmkdoaa.aliasScale
