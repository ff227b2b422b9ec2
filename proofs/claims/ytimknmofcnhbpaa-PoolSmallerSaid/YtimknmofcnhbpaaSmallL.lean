/- How often each choice is kept when room becomes less: plain. No condition. -/
import Derived.Test.YtimknmofcnhbpaaEvenL
set_option linter.unusedSimpArgs false
set_option linter.unusedVariables false
namespace Go.Proofs.Ytimknmofcnhbpaa
open Go.RowKit
def smN (zs ds : List Nat) : Nat → List Nat
  | 0 => zs
  | j + 1 => (smN zs ds j).eraseIdx (ds.getD j 0)
theorem castL_erase : ∀ (zs : List Nat) (i : Nat), castL (zs.eraseIdx i) = (castL zs).eraseIdx i
  | [], i => by simp [castL]
  | z :: zs, 0 => rfl
  | z :: zs, i + 1 => by
    have := castL_erase zs i
    unfold castL at this ⊢
    simp [this]
theorem smN_cast (zs ds : List Nat) : ∀ j, castL (smN zs ds j) = smL (castL zs) (castL ds) j
  | 0 => rfl
  | j + 1 => by
    unfold smN smL
    rw [castL_erase, smN_cast zs ds j, castL_getD]
    simp
theorem smN_mem {zs ds : List Nat} : ∀ j, ∀ z ∈ smN zs ds j, z ∈ zs
  | 0, z, h => h
  | j + 1, z, h => smN_mem j z (List.mem_of_mem_eraseIdx h)
theorem smN_len {zs ds : List Nat} : ∀ j, (smN zs ds j).length ≤ zs.length
  | 0 => Nat.le_refl _
  | j + 1 => Nat.le_trans (List.length_eraseIdx_le _ _) (smN_len j)
def basesF (r i : Nat) : List Nat := (List.range i).map (r - ·)
def outF (r : Nat) : Nat → Nat
  | 0 => 1
  | i + 1 => outF r i * (r - i)
theorem mixF_len : ∀ (bs : List Nat) (x : Nat), (mixF x bs).length = bs.length
  | [], _ => rfl
  | b :: r, x => by simp [mixF, mixF_len r]
theorem mixF_lt : ∀ (bs : List Nat) (x i : Nat), i < bs.length → (∀ b ∈ bs, 0 < b) → (mixF x bs).getD i 0 < bs.getD i 0
  | [], _, _, h, _ => absurd h (Nat.not_lt_zero _)
  | b :: r, x, 0, _, hb => by simpa [mixF] using Nat.mod_lt x (hb b List.mem_cons_self)
  | b :: r, x, i + 1, h, hb => by
    simp only [mixF, List.getD_cons_succ]
    exact mixF_lt r _ i (by simpa using h) (fun c hc => hb c (List.mem_cons_of_mem _ hc))
theorem basesF_getD (r m i : Nat) (h : i < m) : (basesF r m).getD i 0 = r - i := by
  unfold basesF
  rw [List.getD_eq_getElem?_getD, List.getElem?_map, List.getElem?_range h]; rfl
theorem basesF_len (r m : Nat) : (basesF r m).length = m := by simp [basesF]
theorem basesF_pos {r m : Nat} (h : m ≤ r) : ∀ b ∈ basesF r m, 0 < b := by
  intro b hb
  unfold basesF at hb
  rw [List.mem_map] at hb
  obtain ⟨i, hi, rfl⟩ := hb
  have := List.mem_range.1 hi
  omega
/-- Which set is kept of the j-th pool by the x-th draws. -/
def keyS (r m n j x : Nat) : Nat := setN (smN (poolNat r n j) (mixF x (basesF r m)) m) 0
def ALx (L : List (Nat × Nat)) (r m n j : Nat) : Nat → List (Nat × Nat)
  | 0 => L
  | x + 1 => bump (ALx L r m n j x) (keyS r m n j x) 1
/-- The counts after j pools. -/
def ALo (r m n : Nat) : Nat → List (Nat × Nat)
  | 0 => []
  | j + 1 => ALx (ALo r m n j) r m n j (outF r m)
theorem ALx_le (L : List (Nat × Nat)) (r m n j : Nat) (y : Int) (K : Nat) (h : lk L y ≤ K) : ∀ x, lk (ALx L r m n j x) y ≤ K + x
  | 0 => h
  | x + 1 => by
    have h1 := ALx_le L r m n j y K h x
    have h2 := lk_bump_le (ALx L r m n j x) (keyS r m n j x) 1 y
    show lk (bump _ _ _) y ≤ _
    omega
theorem ALo_le (r m n : Nat) (y : Int) (K : Nat) (hK : outF r m ≤ K) : ∀ j, lk (ALo r m n j) y ≤ j * K
  | 0 => Nat.zero_le _
  | j + 1 => by
    have h1 := ALo_le r m n y K hK j
    have h2 := ALx_le (ALo r m n j) r m n j y _ h1 (outF r m)
    show lk (ALx _ _ _ _ _ _) y ≤ _
    rw [Nat.add_mul]; omega
def chkS (r m n : Nat) : Bool := (ALo r m n (fac n)).all (fun p => p.2 == ((ALo r m n (fac n)).getD 0 (0, 0)).2) && decide ((ALo r m n (fac n)).length = wantF n (r - m))
theorem out_le : ∀ r, r ≤ 5 → ∀ i, i ≤ r → outF r i ≤ 120 := by decide
set_option maxRecDepth 100000 in
theorem chkS_4 : ∀ n, n ≤ 5 → ∀ r, r ≤ n → ∀ m, m < r → chkS r m n = true := by decide +kernel
end Go.Proofs.Ytimknmofcnhbpaa
