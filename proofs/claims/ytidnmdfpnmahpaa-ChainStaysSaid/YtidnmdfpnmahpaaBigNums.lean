/- Numbers of many words: plain. No condition. -/
import Derived.Test.YtidnmdfpnmahpaaBigGen
set_option linter.unusedSimpArgs false
set_option linter.unusedVariables false
namespace Go.Proofs.Ytidnmdfpnmahpaa.Big
local notation "BB" => 4294967296
def val : List Nat → Nat
  | [] => 0
  | x :: r => x + BB * val r
def Wd (l : List Nat) : Prop := ∀ x ∈ l, x < BB
def Canon : List Nat → Prop
  | [] => True
  | x :: r => x < BB ∧ Canon r ∧ (r = [] → x ≠ 0)
def trimL : List Nat → List Nat
  | [] => []
  | x :: r => if trimL r = [] ∧ x = 0 then [] else x :: trimL r
def castN (l : List Nat) : List Int := l.map (fun x : Nat => (x : Int))
theorem castN_get (l : List Nat) (i : Nat) : (castN l).getD i 0 = ((l.getD i 0 : Nat) : Int) := by
  unfold castN
  rw [List.getD_eq_getElem?_getD, List.getElem?_map, List.getD_eq_getElem?_getD]
  cases l[i]? <;> rfl
theorem castN_len (l : List Nat) : (castN l).length = l.length := by simp [castN]
theorem castN_inj : ∀ {l l' : List Nat}, castN l = castN l' → l = l'
  | [], [], _ => rfl
  | [], _ :: _, h => by cases h
  | _ :: _, [], h => by cases h
  | x :: r, y :: r', h => by
    injection h with h1 h2
    rw [Int.ofNat.inj h1, castN_inj h2]
theorem Canon.wd : ∀ {l : List Nat}, Canon l → Wd l
  | [], _ => fun x h => by cases h
  | x :: r, h => fun y hy => by
    rcases List.mem_cons.1 hy with rfl | hy
    · exact h.1
    · exact h.2.1.wd y hy
theorem val_zero : ∀ {l : List Nat}, Canon l → val l = 0 → l = []
  | [], _, _ => rfl
  | x :: r, h, h0 => by
    simp only [val] at h0
    have h1 : x = 0 := by omega
    have h2 : val r = 0 := by omega
    exact absurd h1 (h.2.2 (val_zero h.2.1 h2))
theorem val_inj : ∀ {l l' : List Nat}, Canon l → Canon l' → val l = val l' → l = l'
  | [], l', _, h', h => (val_zero h' h.symm).symm
  | x :: r, [], h, _, he => val_zero h he
  | x :: r, y :: r', h, h', he => by
    simp only [val] at he
    have h1 := h.1
    have h2 := h'.1
    have e1 : x = y := by omega
    have e2 : val r = val r' := by omega
    rw [e1, val_inj h.2.1 h'.2.1 e2]
theorem trimL_canon : ∀ {l : List Nat}, Wd l → Canon (trimL l)
  | [], _ => trivial
  | x :: r, h => by
    unfold trimL
    have h1 := trimL_canon (l := r) fun y hy => h y (List.mem_cons_of_mem _ hy)
    split
    · trivial
    · rename_i hn
      exact ⟨h x List.mem_cons_self, h1, fun e hx => hn ⟨e, hx⟩⟩
theorem val_trimL : ∀ l : List Nat, val (trimL l) = val l
  | [] => rfl
  | x :: r => by
    have ih := val_trimL r
    unfold trimL
    split
    · rename_i h
      rw [h.1] at ih
      simp only [val] at ih ⊢
      rw [← ih, h.2]
    · simp only [val]; rw [ih]
theorem trimL_len : ∀ l : List Nat, (trimL l).length ≤ l.length
  | [] => Nat.le_refl _
  | x :: r => by
    have ih := trimL_len r
    unfold trimL
    split
    · simp
    · simp only [List.length_cons]; omega
theorem trimL_zero : ∀ q : List Nat, trimL (q ++ [0]) = trimL q
  | [] => by simp [trimL]
  | x :: q => by
    show trimL (x :: (q ++ [0])) = trimL (x :: q)
    unfold trimL
    rw [trimL_zero q]
theorem trimL_last : ∀ (q : List Nat) (x : Nat), x ≠ 0 → trimL (q ++ [x]) = q ++ [x]
  | [], x, h => by simp [trimL, h]
  | y :: q, x, h => by
    show trimL (y :: (q ++ [x])) = y :: (q ++ [x])
    unfold trimL
    rw [trimL_last q x h, if_neg (by simp)]
theorem canon_last : ∀ l : List Nat, Wd l → (Canon l ↔ l.length = 0 ∨ l.getD (l.length - 1) 0 ≠ 0)
  | [], _ => by simp [Canon]
  | [x], h => by simp [Canon, h x List.mem_cons_self]
  | x :: y :: r, h => by
    have ih := canon_last (y :: r) fun z hz => h z (List.mem_cons_of_mem _ hz)
    simp only [List.length_cons] at ih ⊢
    unfold Canon
    rw [ih]
    have h1 := h x List.mem_cons_self
    simp [h1]
theorem val_lt : ∀ {l : List Nat}, Wd l → val l < BB ^ l.length
  | [], _ => by simp [val]
  | x :: r, h => by
    have ih := val_lt (l := r) fun y hy => h y (List.mem_cons_of_mem _ hy)
    have hx := h x List.mem_cons_self
    simp only [val, List.length_cons]
    rw [Nat.pow_succ]
    generalize BB ^ r.length = p at *
    omega
theorem val_ge : ∀ {l : List Nat}, Canon l → l ≠ [] → BB ^ (l.length - 1) ≤ val l
  | [], _, h => absurd rfl h
  | [x], h, _ => by have := h.2.2 rfl; simp [val]; omega
  | x :: y :: r, h, _ => by
    have ih := val_ge (l := y :: r) h.2.1 (by simp)
    simp only [List.length_cons, Nat.add_sub_cancel] at ih ⊢
    show _ ≤ x + BB * val (y :: r)
    rw [Nat.pow_succ]
    generalize BB ^ r.length = p at *
    omega
theorem len_iff {l : List Nat} (h : Canon l) (m : Nat) : l.length ≤ m ↔ val l < BB ^ m := by
  constructor
  · intro hl
    exact Nat.lt_of_lt_of_le (val_lt h.wd) (Nat.pow_le_pow_right (by decide) hl)
  · intro hv
    rcases Nat.lt_or_ge m l.length with h1 | h1
    · have := val_ge h (by intro e; rw [e] at h1; simp at h1)
      have h2 : BB ^ m ≤ BB ^ (l.length - 1) := Nat.pow_le_pow_right (by decide) (by omega)
      omega
    · exact h1
theorem val_app : ∀ q r : List Nat, val (q ++ r) = val q + BB ^ q.length * val r
  | [], r => by simp [val]
  | x :: q, r => by
    show x + BB * val (q ++ r) = x + BB * val q + BB ^ (q.length + 1) * val r
    rw [val_app q r, Nat.pow_succ]
    grind
theorem nats_of : ∀ zs : List Int, (∀ n ∈ zs, 0 ≤ n ∧ n ≤ 4294967295) → ∃ l, zs = castN l ∧ Wd l
  | [], _ => ⟨[], rfl, fun x h => by cases h⟩
  | z :: zs, h => by
    obtain ⟨l, rfl, hw⟩ := nats_of zs fun n hn => h n (List.mem_cons_of_mem _ hn)
    obtain ⟨h0, h1⟩ := h z List.mem_cons_self
    obtain ⟨k, rfl⟩ := Int.eq_ofNat_of_zero_le h0
    refine ⟨k :: l, rfl, fun x hx => ?_⟩
    rcases List.mem_cons.1 hx with rfl | hx
    · omega
    · exact hw x hx
theorem getD_lt {l : List Nat} (h : Wd l) (i : Nat) : l.getD i 0 < BB := by
  rw [List.getD_eq_getElem?_getD]
  by_cases hi : i < l.length
  · rw [List.getElem?_eq_getElem hi]; exact h _ (List.getElem_mem _)
  · rw [List.getElem?_eq_none (by omega)]; exact (by decide : 0 < BB)
open Go.RowKit
theorem Rd.lenEq {w : World} {a : Option Addr} {n cap : Nat} {l : List Nat} (h : Rd w (.slice a n cap) (castN l)) : l.length = n ∧ n ≤ cap ∧ cap ≤ 9223372036854775807 := by
  obtain ⟨a', c', he, h1, h2, -⟩ := h.open
  injection he with _ h3 h4
  subst h3; subst h4
  rw [castN_len] at *
  exact ⟨rfl, h1, h2⟩
theorem Rd.at {w : World} {a : Option Addr} {n cap : Nat} {l : List Nat} (h : Rd w (.slice a n cap) (castN l)) (hn : 0 < n) :
    ∃ (b off : Nat), a = some ⟨b, off, none⟩ ∧ b < w.heap.size ∧ ∀ i, i < n → w.cell? ⟨b, off + i, none⟩ = some (.int .u32 ((l.getD i 0 : Nat) : Int)) := by
  obtain ⟨a', c', he, h1, h2, hop⟩ := h.open
  injection he with h3 h4 h5
  subst h3; subst h4; subst h5
  rw [castN_len] at *
  obtain ⟨b, off, h6, h7, h8⟩ := hop 0 hn
  exact ⟨b, off, h6, h7, fun i hi => by rw [h8 i hi, castN_get]⟩
theorem Rd.slice {w : World} {v : Value} {l : List Nat} (h : Rd w v (castN l)) : ∃ a cap, v = .slice a l.length cap ∧ l.length ≤ cap ∧ cap ≤ 9223372036854775807 := by
  obtain ⟨a', c', he, h1, h2, -⟩ := h.open
  rw [castN_len] at *
  exact ⟨a', c', he, h1, h2⟩
/-- The first m. -/
theorem Rd.take {w : World} {a : Option Addr} {n cap : Nat} {l : List Nat} (h : Rd w (.slice a n cap) (castN l)) (m cap' : Nat) (hm : m ≤ n) (hc : m ≤ cap') (hc' : cap' ≤ 9223372036854775807) : Rd w (.slice a m cap') (castN (l.take m)) := by
  obtain ⟨hl, -, -⟩ := h.lenEq
  refine Rd.mk (by rw [castN_len, List.length_take]; omega) hc hc' fun i hi => ?_
  obtain ⟨b, off, h1, h2, h3⟩ := h.at (by omega)
  refine ⟨b, off, h1, h2, fun i hi => ?_⟩
  rw [h3 i (by omega), castN_get]
  congr 3
  simp [List.getD_eq_getElem?_getD, List.getElem?_take, hi]
theorem take_last (l : List Nat) (m : Nat) (h : m < l.length) : l.take (m + 1) = l.take m ++ [l.getD m 0] := by
  rw [List.take_add_one, List.getElem?_eq_getElem h, List.getD_eq_getElem?_getD, List.getElem?_eq_getElem h]; rfl
end Go.Proofs.Ytidnmdfpnmahpaa.Big
