/- nat.Add: what it answers. Condition: none but that the words are words. -/
import Derived.Test.YtkaejoejaohpcaaSmall
import Derived.Test.YtkaejoejaohpcaaA64
set_option linter.unusedSimpArgs false
set_option linter.unusedVariables false
namespace Go.Proofs.Ytkaejoejaohpcaa
open Go.RowKit
theorem Try.info28 : (Try.prog.info? 28).map (fun i => (i.zero, i.size, i.bytes)) = some (some (.int .u64 0), 1, 8) := by kernel_rfl
theorem max2_run (a b : Int) (w : World) : (Builtin.max_ #[3, 3] 3 #[.int .i64 a, .int .i64 b]).run Try.prog w = .ok (.int .i64 (max a b)) w := by
  have h2 : ∀ (x y : Int) (w : World), (Builtin.max2 (.int .i64 x) (.int .i64 y)).run Try.prog w = .ok (.int .i64 (max x y)) w := fun x y w => by
    have e : (if x < y then y else x) = max x y := by split <;> omega
    simp [Builtin.max2, e]
  simp [Builtin.max_, List.foldlM, h2, Sem.run_bind, Result.andThen]
/-- What a number's function answers: the number, if it is of at most 64 words. -/
def Ans (e : Ending) (w' : World) (V : Nat) : Prop :=
  ∃ l, Canon l ∧ val l = V ∧ ((l.length ≤ 64 ∧ ∃ v, e = .returned (.tuple #[v, .int .i64 0]) ∧ Rd w' v (castN l)) ∨ (64 < l.length ∧ e = .returned (.tuple #[.slice none 0 0, .int .i64 4])))
/-- trim and fits at the end. -/
theorem ends_any (base n : Nat) (v : Value) (o : List Nat) (w : World) (ho : w.ownsRow base 28 1 v n ((castN o).map (Value.int .u64))) (hw : Wd o) :
    ∃ a c, v = .slice a n c ∧ Calls Try.prog 19 #[.slice a n c] w fun e w' => ∃ a' k, e = .returned (.slice a' k k) ∧ (trimL o).length = k ∧ Rd w (.slice a' k k) (castN (trimL o)) ∧ w = w' := by
  have hr := Rd.own ho
  have hn : o.length = n := by have := ho.1; simpa [castN] using this
  obtain ⟨a, c, rfl, h1, h2⟩ := hr.slice
  rw [hn] at hr ⊢
  refine ⟨a, c, rfl, (trim_any a n c o w hr).mono ?_⟩
  rintro e w' ⟨rfl, h3, rfl⟩
  exact ⟨_, _, rfl, rfl, h3, rfl⟩
set_option maxHeartbeats 1000000 in
set_option maxRecDepth 20000 in
theorem add_run (a : Option Addr) (n c : Nat) (la : List Nat) (a2 : Option Addr) (m c2 : Nat) (lb : List Nat) (w : World) (ha : Rd w (.slice a n c) (castN la)) (hb : Rd w (.slice a2 m c2) (castN lb))
    (ca : Canon la) (cb : Canon lb) (h64 : n ≤ 64) (h64' : m ≤ 64) :
    Calls Try.prog 9 #[.slice a n c, .slice a2 m c2] w fun e w' => Below w.heap.size w w' ∧ Ans e w' (val la + val lb) := by
  obtain ⟨i0, hi0, hz0, hz1, hz2⟩ := info_parts Try.info28
  obtain ⟨hla, -, -⟩ := ha.lenEq
  obtain ⟨hlb, -, -⟩ := hb.lenEq
  obtain ⟨N, hN⟩ : ∃ N, max n m = N := ⟨_, rfl⟩
  have hnN : n ≤ N := by omega
  have hmN : m ≤ N := by omega
  have hN64 : N ≤ 64 := by omega
  have hNI : max (n : Int) (m : Int) = (N : Int) := by omega
  have HR1 : Hid (∀ X, Below w.heap.size w X → Calls Try.prog 15 #[.slice a n c] X fun e w' => e = .returned (.bool true) ∧ X = w') := fun X hX => (right_any a n c la X (ha.below hX (Nat.le_refl _))).mono fun e w' ⟨h1, h2⟩ => ⟨by rw [h1, (rightB_iff ca.wd).2 ⟨by omega, ca⟩], h2⟩
  have HR2 : Hid (∀ X, Below w.heap.size w X → Calls Try.prog 15 #[.slice a2 m c2] X fun e w' => e = .returned (.bool true) ∧ X = w') := fun X hX => (right_any a2 m c2 lb X (hb.below hX (Nat.le_refl _))).mono fun e w' ⟨h1, h2⟩ => ⟨by rw [h1, (rightB_iff cb.wd).2 ⟨by omega, cb⟩], h2⟩
  have HW1 : Hid (∀ X k, Below w.heap.size w X → Calls Try.prog 20 #[.slice a n c, .int .i64 (k : Nat)] X fun e w' => e = .returned (.int .u64 ((la.getD k 0 : Nat) : Int)) ∧ X = w') := fun X k hX => word_any a n c k la X (ha.below hX (Nat.le_refl _))
  have HW2 : Hid (∀ X k, Below w.heap.size w X → Calls Try.prog 20 #[.slice a2 m c2, .int .i64 (k : Nat)] X fun e w' => e = .returned (.int .u64 ((lb.getD k 0 : Nat) : Int)) ∧ X = w') := fun X k hX => word_any a2 m c2 k lb X (hb.below hX (Nat.le_refl _))
  have HXA : Hid (∀ k, la.getD k 0 < 18446744073709551616) := fun k => getD_lt ca.wd k
  have HXB : Hid (∀ k, lb.getD k 0 < 18446744073709551616) := fun k => getD_lt cb.wd k
  have HTA : Hid (la.take (N + 1) = la) := List.take_of_length_le (by omega)
  have HTB : Hid (lb.take (N + 1) = lb) := List.take_of_length_le (by omega)
  have HLA : Hid (val la < 18446744073709551616 ^ N) := Nat.lt_of_lt_of_le (val_lt ca.wd) (Nat.pow_le_pow_right (by decide) (by omega))
  have HLB : Hid (val lb < 18446744073709551616 ^ N) := Nat.lt_of_lt_of_le (val_lt cb.wd) (Nat.pow_le_pow_right (by decide) (by omega))
  clear ha hb hla hlb ca cb hN
  have hw1 : IntKind.i64.wrap ((N : Int) + 1) = ((N + 1 : Nat) : Int) := by rw [IntKind.wrap_i64]; omega
  have emax := fun (w : World) => max2_run (n : Int) (m : Int) w
  rw [hNI] at emax
  clear hNI
  go_enter Try.func9, Try.ntmps9
  go_wp2_with fail
  refine (HR1.out w (Below.refl _ _)).mono ?_
  rintro e w1 ⟨rfl, rfl⟩
  go_wp2_with fail
  refine (HR2.out w (Below.refl _ _)).mono ?_
  rintro e w1 ⟨rfl, rfl⟩
  go_wp2_with fail
  clear emax HR1 HR2
  have h65 : N + 1 ≤ 65 := by omega
  have hnx : ((N + 1 : Nat) : Int) = ((N + 1 : Nat) : Int) := rfl
  generalize hM : N + 1 = M at *
  clear hw1
  have HO0 : Hid (w.ownsRow w.heap.size 28 1 (.slice none 0 0) 0 ((castN []).map (Value.int .u64))) := World.ownsRow_nil _ _ _ _
  have HV0 : Hid (val [] + 18446744073709551616 ^ 0 * 0 = val (la.take 0) + val (lb.take 0)) := by show _ = _; simp [val]
  go_loopw [24, 6, 7] (fun iv v cv wr => ∃ i c : Nat, ∃ o : List Nat, i ≤ M ∧ c ≤ 1 ∧ iv = .int .i64 i ∧ cv = .int .u64 c ∧ Hid (o.length = i ∧ Wd o ∧ val o + 18446744073709551616 ^ i * c = val (la.take i) + val (lb.take i)) ∧ Hid (wr.ownsRow w.heap.size 28 1 v i ((castN o).map (Value.int .u64))) ∧ Hid (Below w.heap.size w wr)) (fun iv _ _ _ => M - (intOf iv).toNat)
  case atStart => exact ⟨0, 0, [], Nat.zero_le _, Nat.zero_le _, rfl, rfl, ⟨rfl, (fun x h => by cases h), HV0.out⟩, HO0.out, Below.refl _ _⟩
  case round =>
    clear HO0 HV0
    obtain ⟨i, cc, o, hi, hcc, rfl, rfl, HP, HO, HB⟩ := hrel
    by_cases hiM : i < M
    · have hiI : (i : Int) < (M : Int) := by omega
      have W1 : Hid (∀ X, Below w.heap.size w X → Calls Try.prog 20 #[.slice a n c, .int .i64 i] X fun e w' => e = .returned (.int .u64 ((la.getD i 0 : Nat) : Int)) ∧ X = w') := fun X hX => HW1.out X i hX
      have W2 : Hid (∀ X, Below w.heap.size w X → Calls Try.prog 20 #[.slice a2 m c2, .int .i64 i] X fun e w' => e = .returned (.int .u64 ((lb.getD i 0 : Nat) : Int)) ∧ X = w') := fun X hX => HW2.out X i hX
      have hx := HXA.out i
      have hy := HXB.out i
      have HSA : Hid (val (la.take (i + 1)) = val (la.take i) + 18446744073709551616 ^ i * la.getD i 0) := val_take la i
      have HSB : Hid (val (lb.take (i + 1)) = val (lb.take i) + 18446744073709551616 ^ i * lb.getD i 0) := val_take lb i
      generalize la.getD i 0 = x at *
      generalize lb.getD i 0 = y at *
      have e64 := fun (w : World) => add64 x y cc hcc w
      have HS : Hid ((x + y + cc) % 18446744073709551616 + 18446744073709551616 * ((x + y + cc) / 18446744073709551616) = x + y + cc) := Nat.mod_add_div _ _
      have hs : (x + y + cc) % 18446744073709551616 < 18446744073709551616 := Nat.mod_lt _ (by decide)
      have hd : (x + y + cc) / 18446744073709551616 ≤ 1 := by omega
      generalize (x + y + cc) % 18446744073709551616 = s at *
      generalize (x + y + cc) / 18446744073709551616 = d at *
      have HPn : Hid ((o ++ [s]).length = i + 1 ∧ Wd (o ++ [s]) ∧ val (o ++ [s]) + 18446744073709551616 ^ (i + 1) * d = val (la.take (i + 1)) + val (lb.take (i + 1))) := by
        obtain ⟨p1, p2, p3⟩ := HP.out
        refine ⟨by simp [p1], wd_app p2 hs, ?_⟩
        rw [HSA.out, HSB.out, val_app, p1, Nat.pow_succ]
        have := add_step (val o) (val (la.take i)) (val (lb.take i)) cc x y s d (18446744073709551616 ^ i) p3 HS.out
        simpa [val] using this
      have hbs := HB.out.size
      have hi44 : i + 1 ≤ 17592186044416 := by omega
      clear hx hy hs HW1 HW2
      go_wp2_with fail
      refine (W1.out wr HB.out).mono ?_
      rintro e w1 ⟨rfl, rfl⟩
      go_wp2_with fail
      refine (W2.out wr HB.out).mono ?_
      rintro e w1 ⟨rfl, rfl⟩
      go_wp2_with (at_builtin; go_must (refine push rfl _ _ 22 rfl w.heap.size 28 i0 (.int .u64 0) 8 Try.underlying22 hi0 hz0 hz1 hz2 rfl _ i ((castN o).map (Value.int .u64)) rfl HO.out (.int .u64 s) wr.heap.size rfl rfl rfl (by decide) (by omega) hbs ?_))
      intro v5 w5 ho5 hg5
      have HB5 : Hid (Below w.heap.size w w5) := grown_below hg5 HO.out HB.out (Nat.le_refl _) hbs
      have HO5 : Hid (w5.ownsRow w.heap.size 28 1 v5 (i + 1) ((castN (o ++ [s])).map (Value.int .u64))) := by
        have e : (castN (o ++ [s])).map (Value.int .u64) = (castN o).map (Value.int .u64) ++ [.int .u64 (s : Int)] := by simp [castN]
        show World.ownsRow _ _ _ _ _ _ _
        rw [e]; exact ho5
      clear ho5 hg5
      go_wp2_with fail
      exact ⟨⟨i + 1, d, _, by omega, hd, by go_num, rfl, HPn.out, HO5.out, HB5.out⟩, by simp [intOf]; omega⟩
    · obtain rfl : i = M := by omega
      obtain ⟨p1, p2, p3⟩ := HP.out
      obtain ⟨av, kv, rfl, HTR⟩ := ends_any w.heap.size i _ o wr HO.out p2
      have HT := Lib.hid HTR
      have HVAL : Hid (val (trimL o) = val la + val lb) := by
        show _ = _
        rw [val_trimL]
        rw [HTA.out, HTB.out, ← hM] at p3
        exact add_end p3 HLA.out HLB.out
      have HCN : Hid (Canon (trimL o)) := trimL_canon p2
      clear HTR p1 p2 p3
      go_wp2_with fail
      refine HT.out.mono ?_
      rintro e w7 ⟨a', k, rfl, hk, hr, rfl⟩
      have HK := Lib.hid hk
      have HRR := Lib.hid hr
      clear hk hr
      go_wp2_with fail
      refine (fits_any a' k k wr).mono ?_
      rintro e w8 ⟨rfl, rfl⟩
      by_cases hk64 : k ≤ 64
      · rw [if_pos hk64]
        go_wp2_with fail
        go_ret2
        exact ⟨HB.out, _, HCN.out, HVAL.out, .inl ⟨by rw [HK.out]; exact hk64, _, rfl, HRR.out⟩⟩
      · rw [if_neg hk64]
        go_wp2_with fail
        go_ret2
        exact ⟨HB.out, _, HCN.out, HVAL.out, .inr ⟨by rw [HK.out]; omega, rfl⟩⟩
end Go.Proofs.Ytkaejoejaohpcaa
