/- nat.Div: what it answers. Condition: a number, of at most 64 words; a divisor that is not 0. -/
import Derived.Test.YtkaejoejaohpcaaD64G
import Derived.Test.YtkaejoejaohpcaaCmpL
set_option linter.unusedSimpArgs false
set_option linter.unusedVariables false
namespace Go.Proofs.Ytkaejoejaohpcaa
open Go.RowKit
theorem wd_zeros (n : Nat) : Wd (List.replicate n 0) := fun x hx => by rw [List.eq_of_mem_replicate hx]; decide
theorem drop_word1 {l : List Nat} {k : Nat} (h : k < l.length) : l.drop k = l.getD k 0 :: l.drop (k + 1) := by
  rw [List.drop_eq_getElem_cons h, List.getD_eq_getElem?_getD, List.getElem?_eq_getElem h]; rfl
theorem div_stepB {B VA VO r b x q r' : Nat} (h : VA = VO * b + r) (hq : r * B + x = q * b + r') : x + B * VA = (q + B * VO) * b + r' := by
  rw [h]; grind
/-- One word more is divided. -/
theorem div_step {la o : List Nat} {k b r q r' : Nat} (hk : k < la.length) (hko : k < o.length) (h : val (la.drop (k + 1)) = val (o.drop (k + 1)) * b + r) (hq : r * 18446744073709551616 + la.getD k 0 = q * b + r') :
    val (la.drop k) = val ((o.set k q).drop k) * b + r' := by
  have e : (o.set k q).drop k = q :: o.drop (k + 1) := by
    rw [drop_word1 (by simpa using hko)]
    congr 1
    · simp [List.getD_eq_getElem?_getD, List.getElem?_set, hko]
    · rw [List.drop_set_of_lt (by omega)]
  rw [e, drop_word1 hk]
  exact div_stepB h hq
set_option maxHeartbeats 1600000 in
set_option maxRecDepth 20000 in
theorem div_run (a : Option Addr) (n c : Nat) (la : List Nat) (b : Nat) (w : World) (h : Rd w (.slice a n c) (castN la)) (ca : Canon la) (h64 : n ≤ 64) (hb0 : 0 < b) (hb1 : b < 18446744073709551616) :
    Calls Try.prog 11 #[.slice a n c, .int .u64 b] w fun e w' => Below w.heap.size w w' ∧ ∃ a' k l, ∃ r : Nat, e = .returned (.tuple #[.slice a' k k, .int .u64 r, .int .i64 0]) ∧ Rd w' (.slice a' k k) (castN l) ∧ Canon l ∧ val l * b + r = val la ∧ r < b := by
  obtain ⟨i0, hi0, hz0, hz1, hz2⟩ := info_parts Try.info28
  have HLA : Hid (la.length = n) := h.lenEq.1
  have HXA : Hid (∀ k, la.getD k 0 < 18446744073709551616) := fun k => getD_lt ca.wd k
  have HR1 : Hid (∀ X, Below w.heap.size w X → Calls Try.prog 15 #[.slice a n c] X fun e w' => e = .returned (.bool true) ∧ X = w') := fun X hX => (right_any a n c la X (h.below hX (Nat.le_refl _))).mono fun e w' ⟨h1, h2⟩ => ⟨by rw [h1, (rightB_iff ca.wd).2 ⟨by have := HLA.out; omega, ca⟩], h2⟩
  have HCA : Hid (0 < n → ∃ b off, a = some ⟨b, off, none⟩ ∧ b < w.heap.size ∧ ∀ X, Below w.heap.size w X → ∀ i, i < n → X.cell? ⟨b, off + i, none⟩ = some (.int .u64 ((la.getD i 0 : Nat) : Int))) := fun h0 => by
    obtain ⟨b, off, h1, h2, h3⟩ := h.at h0
    exact ⟨b, off, h1, h2, fun X hX i hi => (World.cell?_of_block (hX.block b h2)).trans (h3 i hi)⟩
  clear h ca
  have t1 : ((b : Int) == 0) = false := by rw [beq_eq_false_iff_ne]; omega
  have hw1 : IntKind.i64.wrap ((n : Int) - 1) = (n : Int) - 1 := by rw [IntKind.wrap_i64]; omega
  go_enter Try.func11, Try.ntmps11
  go_wp2_with fail
  refine (HR1.out w (Below.refl _ _)).mono ?_
  rintro e w1 ⟨rfl, rfl⟩
  go_wp2_with (refine wpList_make_full _ rfl _ _ 22 rfl w.heap.size 28 i0 (.int .u64 0) 1 Try.underlying22 hi0 hz0 hz1 .i64 .i64 _ _ n rfl rfl rfl rfl ?b2 ?b3 (Nat.le_refl _) ?_)
  case b2 => rw [hz2]; omega
  case b3 => unfold maxLen; omega
  intro w4 hown hgr
  have hB4 : Below w.heap.size w w4 := (Below.refl _ _).grown hgr (Nat.le_refl _) (fun k hk => by cases hk)
  rw [zeros_castN] at hown
  have HO4 := Lib.hid hown
  have HB4 := Lib.hid hB4
  clear hown hB4 hgr HR1
  go_wp2_with fail
  obtain ⟨g, hg⟩ : ∃ g, w.heap.size = g := ⟨_, rfl⟩
  have HGE : Hid (w.heap.size ≤ g) := by show _ ≤ _; omega
  have HOg : Hid (w4.ownsRow w.heap.size 28 1 (.slice (some ⟨g, 0, none⟩) n n) n ((castN (List.replicate n 0)).map (Value.int .u64))) := by
    have := HO4.out
    rw [hg] at this ⊢
    exact this
  clear HO4 t1 hw1
  simp only [hg]
  clear hg
  have HS0 : Hid (Wd (List.replicate n 0) ∧ val (la.drop n) = val ((List.replicate n 0).drop n) * b + 0) := ⟨wd_zeros n, by
    rw [List.drop_of_length_le (by have := HLA.out; omega), List.drop_of_length_le (by simp)]; simp [val]⟩
  go_loopw [9, 8] (fun kv rv wr => ∃ (z : Int) (k r : Nat) (o : List Nat), kv = .int .i64 z ∧ z = (k : Int) - 1 ∧ k ≤ n ∧ rv = .int .u64 r ∧ r < b ∧ Hid (Wd o ∧ val (la.drop k) = val (o.drop k) * b + r) ∧ Hid (wr.ownsRow w.heap.size 28 1 (.slice (some ⟨g, 0, none⟩) n n) n ((castN o).map (Value.int .u64))) ∧ Hid (Below w.heap.size w wr)) (fun kv _ _ => (intOf kv + 1).toNat)
  case atStart => exact ⟨_, n, 0, List.replicate n 0, rfl, rfl, Nat.le_refl _, rfl, hb0, HS0.out, HOg.out, HB4.out⟩
  case round =>
    clear HOg HB4 HS0
    obtain ⟨z, k, r, o, rfl, hz, hk, rfl, hr, HP, HO, HB⟩ := hrel
    rcases Nat.eq_zero_or_pos k with h0 | h0
    · subst h0
      obtain rfl : z = -1 := by omega
      obtain ⟨p1, p2⟩ := HP.out
      obtain ⟨av, kv, hav, HTR⟩ := ends_any w.heap.size n _ o wr HO.out p1
      cases hav
      have HT := Lib.hid HTR
      have HVAL : Hid (val (trimL o) * b + r = val la) := by show _ = _; rw [val_trimL]; exact p2.symm
      have HCN : Hid (Canon (trimL o)) := trimL_canon p1
      clear HTR hz p1 p2
      go_wp2_with fail
      refine HT.out.mono ?_
      rintro e w7 ⟨a', kk, rfl, -, hrd, rfl⟩
      have HRR := Lib.hid hrd
      clear hrd
      go_wp2_with fail
      refine bodyPost_ret (v := .tuple #[.slice a' kk kk, .int .u64 (r : Int), .int .i64 0]) (by simp [results, Try.results11, go_sem]) rfl ⟨HB.out, a', kk, _, r, rfl, HRR.out, HCN.out, HVAL.out, hr⟩
    · obtain ⟨q, rfl⟩ : ∃ q, k = q + 1 := ⟨k - 1, by omega⟩
      obtain rfl : z = (q : Int) := by omega
      obtain ⟨bb, off, rfl, -, hca⟩ := HCA.out (by omega)
      have cx := hca wr HB.out q (by omega)
      clear hca
      have hq : q < n := by omega
      have hqI : (q : Int) < (n : Int) := by omega
      have hx := HXA.out q
      have hdm := Nat.div_add_mod (r * 18446744073709551616 + la.getD q 0) b
      have hqw : IntKind.i64.wrap ((q : Int) - 1) = (q : Int) - 1 := by rw [IntKind.wrap_i64]; omega
      obtain ⟨Q, hQ⟩ : ∃ Q, (r * 18446744073709551616 + la.getD q 0) / b = Q := ⟨_, rfl⟩
      obtain ⟨R, hR⟩ : ∃ R, (r * 18446744073709551616 + la.getD q 0) % b = R := ⟨_, rfl⟩
      have hRb : R < b := by rw [← hR]; exact Nat.mod_lt _ hb0
      have hQ64 : Q < 18446744073709551616 := by
        rw [← hQ, Nat.div_lt_iff_lt_mul hb0]
        omega
      rw [hQ, hR] at hdm
      have hlen : o.length = n := by have := HO.out.1; simpa [castN] using this
      have HPn : Hid (Wd (o.set q Q) ∧ val (la.drop q) = val ((o.set q Q).drop q) * b + R) := by
        obtain ⟨p1, p2⟩ := HP.out
        exact ⟨wd_set p1 hQ64, div_step (by rw [HLA.out]; exact hq) (by rw [hlen]; exact hq) p2 (by rw [← hdm, Nat.mul_comm b Q])⟩
      have HDV : Hid (Calls Try.prog 21 #[.int .u64 (r : Int), .int .u64 ((la.getD q 0 : Nat) : Int), .int .u64 (b : Int)] wr fun e w' => e = .returned (.tuple #[.int .u64 (Q : Int), .int .u64 (R : Int)]) ∧ Below wr.heap.size wr w') := div64_any r _ b Q R wr hr hb1 hx hQ hR
      clear hdm hQ hR hQ64 hlen hz hx
      generalize la.getD q 0 = x at *
      have co : wr.cell? ⟨g, q, none⟩ = some (.int .u64 ((o.getD q 0 : Nat) : Int)) := by rw [own_get HO.out q hq, castN_get]
      go_wp2_with fail
      refine HDV.out.mono ?_
      rintro e w5 ⟨rfl, hb5⟩
      have HO5 := Lib.hid (own_below HO.out hb5 (Nat.le_refl _))
      have HB5 := Lib.hid (HB.out.trans (hb5.mono HB.out.size))
      have co5 : w5.cell? ⟨g, q, none⟩ = some (.int .u64 ((o.getD q 0 : Nat) : Int)) := by rw [own_get HO5.out q hq, castN_get]
      have fo5 : w5.frozen? ⟨g, q, none⟩ = false := HO5.out.frozenAt q
      clear hb5 co cx
      go_wp2_with fail
      go_roundw
      case rel => exact ⟨_, q, R, _, rfl, rfl, by omega, rfl, hRb, HPn.out, ownN_set HO5.out q Q, HB5.out.setCell HGE.out _⟩
      case measure => simp [intOf] <;> omega
end Go.Proofs.Ytkaejoejaohpcaa
