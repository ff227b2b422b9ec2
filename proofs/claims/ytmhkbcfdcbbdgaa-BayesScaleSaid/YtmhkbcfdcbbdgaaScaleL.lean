/- BayesScale: the plain law. No condition. -/
import Derived.Test.YtmhkbcfdcbbdgaaLaw
set_option linter.unusedSimpArgs false
set_option linter.unusedVariables false
namespace Go.Proofs.Ytmhkbcfdcbbdgaa.bayesScale
open Go.RowKit Go.Proofs.Ytmhkbcfdcbbdgaa
/-- One list of numbers with the s-th times by. -/
def up (r : List Int) (s by' : Nat) : List Int := r.set s (r.getD s 0 * by')
def ups (zss : List (List Int)) (s by' : Nat) : List (List Int) := zss.map fun r => up r s by'
theorem up_len (r : List Int) (s b : Nat) : (up r s b).length = r.length := by simp [up]
theorem ups_len (zss : List (List Int)) (s b : Nat) : (ups zss s b).length = zss.length := by simp [ups]
theorem ups_get (zss : List (List Int)) (s b k : Nat) : (ups zss s b).getD k [] = up (zss.getD k []) s b := by
  unfold ups
  rw [List.getD_eq_getElem?_getD, List.getElem?_map, List.getD_eq_getElem?_getD]
  cases zss[k]? <;> simp [up]
theorem nd_up (r : List Int) (s b i : Nat) (hs : s < r.length) : nd (up r s b) i = nd r i * (if i = s then b else 1) := by
  by_cases hi : i < r.length
  · unfold nd up
    rw [List.getD_eq_getElem?_getD, List.getElem?_set]
    by_cases e : s = i
    · subst e
      simp only [if_pos rfl, hi]
      rcases Int.le_total 0 (r.getD s 0) with h | h
      · obtain ⟨m, hm⟩ := Int.eq_ofNat_of_zero_le h
        rw [hm]; simp; omega
      · rw [show (r.getD s 0).toNat = 0 by omega]
        simp
        rcases Nat.eq_zero_or_pos b with h0 | h0
        · subst h0; simp
        · have := Int.mul_le_mul_of_nonneg_right h (show (0 : Int) ≤ (b : Int) by omega)
          simp [List.getD_eq_getElem?_getD] at this ⊢
          exact this
    · rw [if_neg e, if_neg (fun h => e h.symm), Nat.mul_one, List.getD_eq_getElem?_getD]
  · rw [nd_out (by rw [up_len]; omega), nd_out (by omega), Nat.zero_mul]
def fac (s b : Nat) : List Int → Nat
  | [] => 1
  | x :: ns => (if x.toNat = s then b else 1) * fac s b ns
theorem fac_pos {s b : Nat} (hb : 0 < b) : ∀ ns, 0 < fac s b ns
  | [] => Nat.one_pos
  | x :: ns => by rw [fac]; exact Nat.mul_pos (by split <;> omega) (fac_pos hb ns)
theorem prd_ups (zss : List (List Int)) (s b k : Nat) (hs : s < (zss.getD k []).length) : ∀ ns, prd (ups zss s b) k ns = fac s b ns * prd zss k ns
  | [] => rfl
  | x :: ns => by
    rw [prd, prd, fac, prd_ups zss s b k hs ns]
    unfold sg
    rw [ups_get, nd_up _ _ _ _ hs]
    simp only [Nat.mul_comm, Nat.mul_left_comm, Nat.mul_assoc]
theorem see_same {zs zs' : List Int} {zss zss' : List (List Int)} {ns : List Int} (h : wrF zs zss = 0) (hl : (zss'.getD 0 []).length = (zss.getD 0 []).length) (h' : wrF zs' zss' = 0 ∨ wrF zs' zss' = 2) :
    seeE zs' zss' ns = 2 ∨ seeE zs zss ns = seeE zs' zss' ns := by
  rcases h' with h' | h'
  · right
    by_cases h2 : 12 < ns.length
    · rw [seeE_many h h2, seeE_many h' h2]
    · by_cases h3 : Seen (zss.getD 0 []).length ns
      · rw [seeE_ok h h2 h3, seeE_ok h' h2 (by rw [hl]; exact h3)]
      · rw [seeE_none h h2 h3, seeE_none h' h2 (by rw [hl]; exact h3)]
  · left; rw [seeE_bad (by omega), h']
theorem prior_same {zs : List Int} {zss : List (List Int)} (ns : List Int) {b : Nat} (hb : 0 < b) (hok : OkB zs zss) :
    (seeE (tabI zs.length (fun k => nd zs k * b)) zss ns = 2 ∨ seeE zs zss ns = seeE (tabI zs.length (fun k => nd zs k * b)) zss ns) ∧
    tabI zs.length (seeT (tabI zs.length (fun k => nd zs k * b)) zss ns) = tabI zs.length (seeT zs zss ns) := by
  refine ⟨see_same (wrF_zero.2 hok) rfl (wrF_two (by rw [tabI_len]; exact hok.1) fun k hk => (hok.2.2.2 k (by rw [hok.1]; exact hk)).2.2.1), tabI_congr fun k hk => ?_⟩
  have e1 := seeT_eq (tabI zs.length (fun k => nd zs k * b)) zss ns (i := k) (by rw [tabI_len]; exact hk)
  rw [tabI_len] at e1
  rw [e1, seeT_eq _ _ _ hk, ← lw_scale hb (fun k => nd zs k * prd zss k ns)]
  exact lw_congr (fun i hi => by rw [nd_tabI, if_pos hi, Nat.mul_comm (nd zs i), Nat.mul_assoc]) hk
theorem signs_same {zs : List Int} {zss : List (List Int)} (ns : List Int) {s b : Nat} (hb : 0 < b) (hok : OkB zs zss) (hs : s < (zss.getD 0 []).length) :
    (seeE zs (ups zss s b) ns = 2 ∨ seeE zs zss ns = seeE zs (ups zss s b) ns) ∧
    tabI zs.length (seeT zs (ups zss s b) ns) = tabI zs.length (seeT zs zss ns) := by
  have hr : ∀ k, k < zs.length → (zss.getD k []).length = (zss.getD 0 []).length := fun k hk => (hok.2.2.2 k hk).2.2.1
  refine ⟨see_same (wrF_zero.2 hok) (by rw [ups_get, up_len]) (wrF_two (by rw [ups_len]; exact hok.1) fun k hk => ?_), tabI_congr fun k hk => ?_⟩
  · rw [ups_len] at hk
    rw [ups_get, up_len, ups_get, up_len]
    exact hr k (by rw [hok.1]; exact hk)
  · rw [seeT_eq _ _ _ hk, seeT_eq _ _ _ hk, ← lw_scale (fac_pos hb ns) (fun k => nd zs k * prd zss k ns)]
    exact lw_congr (fun i hi => by rw [prd_ups _ _ _ _ (by rw [hr i hi]; exact hs), Nat.mul_left_comm]) hk
theorem see_post {zs : List Int} {zss : List (List Int)} {ns : List Int} {e : Ending} {w' : World} (h : SeePost zs zss ns e w') :
    ∃ u, e = .returned (.tuple #[u, .int .i64 (seeE zs zss ns : Nat)]) ∧ Rd w' u (if seeE zs zss ns = 0 then tabI zs.length (seeT zs zss ns) else []) := by
  by_cases h0 : seeE zs zss ns = 0
  · obtain ⟨u, rfl, hu⟩ := h.2 h0
    rw [h0]
    exact ⟨u, rfl, hu⟩
  · have := h.1 h0
    subst this
    rw [if_neg h0]
    exact ⟨_, rfl, Rd.nil _⟩
end Go.Proofs.Ytmhkbcfdcbbdgaa.bayesScale
