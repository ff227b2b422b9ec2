/- nat.Mul: what it answers. Condition: the words are numbers, of at most 64 words each. -/
import Derived.Test.YtkaejoejaohpcaaAdd
import Derived.Test.YtkaejoejaohpcaaMulL
import Derived.Test.YtkaejoejaohpcaaShelf
set_option linter.unusedSimpArgs false
set_option linter.unusedVariables false
namespace Go.Proofs.Ytkaejoejaohpcaa
open Go.RowKit
theorem add64_0 (x y s c : Nat) (hs : (x + y) % 18446744073709551616 = s) (hc : (x + y) / 18446744073709551616 = c) (w : World) : (callFunc 17 #[.int .u64 x, .int .u64 y, .int .u64 0]).run Try.prog w =
    .ok (.value (.tuple #[.int .u64 s, .int .u64 c])) w := by
  have := add64 x y 0 (by omega) w
  rw [Nat.add_zero, hs, hc] at this
  exact this
theorem zeros_castN (n : Nat) : (madeCells #[Value.int .u64 0] n).toList = (castN (List.replicate n 0)).map (Value.int .u64) := by
  rw [zeros_eq]; simp [castN]
theorem val_zeros : ∀ n, val (List.replicate n 0) = 0
  | 0 => rfl
  | n + 1 => by rw [List.replicate_succ]; simp [val, val_zeros n]
theorem getD_setN (o : List Nat) (q s k : Nat) (h : k ≠ q) : (o.set q s).getD k 0 = o.getD k 0 := by
  rw [List.getD_eq_getElem?_getD, List.getElem?_set_ne (fun e => h e.symm), List.getD_eq_getElem?_getD]
theorem wd_set {o : List Nat} {q s : Nat} (h : Wd o) (hs : s < 18446744073709551616) : Wd (o.set q s) := fun x hx => by
  rcases List.mem_or_eq_of_mem_set hx with hx | rfl
  · exact h x hx
  · exact hs
theorem ownN_set {w : World} {base g n cap : Nat} {e : TypeId} {c : List Nat} (h : w.ownsRow base e 1 (.slice (some ⟨g, 0, none⟩) n cap) n ((castN c).map (Value.int .u64))) (j x : Nat) :
    (w.setCell ⟨g, j, none⟩ (.int .u64 x)).ownsRow base e 1 (.slice (some ⟨g, 0, none⟩) n cap) n ((castN (c.set j x)).map (Value.int .u64)) := by
  have := own_set h j (x : Int)
  have e : castN (c.set j x) = (castN c).set j (x : Int) := by unfold castN; rw [List.map_set]
  rw [e]; exact this
set_option maxHeartbeats 2000000 in
set_option maxRecDepth 20000 in
theorem mul_run (a : Option Addr) (n c : Nat) (la : List Nat) (a2 : Option Addr) (m c2 : Nat) (lb : List Nat) (w : World) (ha : Rd w (.slice a n c) (castN la)) (hb : Rd w (.slice a2 m c2) (castN lb))
    (ca : Canon la) (cb : Canon lb) (h64 : n ≤ 64) (h64' : m ≤ 64) :
    Calls Try.prog 8 #[.slice a n c, .slice a2 m c2] w fun e w' => Below w.heap.size w w' ∧ Ans e w' (val la * val lb) := by
  obtain ⟨i0, hi0, hz0, hz1, hz2⟩ := info_parts Try.info28
  obtain ⟨hla, -, -⟩ := ha.lenEq
  obtain ⟨hlb, -, -⟩ := hb.lenEq
  obtain ⟨L, hL⟩ : ∃ L, n + m = L := ⟨_, rfl⟩
  have hLI : (n : Int) + (m : Int) = (L : Int) := by omega
  have hLw : IntKind.i64.wrap (L : Int) = (L : Int) := by rw [IntKind.wrap_i64]; omega
  have HR1 : Hid (∀ X, Below w.heap.size w X → Calls Try.prog 15 #[.slice a n c] X fun e w' => e = .returned (.bool true) ∧ X = w') := fun X hX => (right_any a n c la X (ha.below hX (Nat.le_refl _))).mono fun e w' ⟨h1, h2⟩ => ⟨by rw [h1, (rightB_iff ca.wd).2 ⟨by omega, ca⟩], h2⟩
  have HR2 : Hid (∀ X, Below w.heap.size w X → Calls Try.prog 15 #[.slice a2 m c2] X fun e w' => e = .returned (.bool true) ∧ X = w') := fun X hX => (right_any a2 m c2 lb X (hb.below hX (Nat.le_refl _))).mono fun e w' ⟨h1, h2⟩ => ⟨by rw [h1, (rightB_iff cb.wd).2 ⟨by omega, cb⟩], h2⟩
  have HXA : Hid (∀ k, la.getD k 0 < 18446744073709551616) := fun k => getD_lt ca.wd k
  have HXB : Hid (∀ k, lb.getD k 0 < 18446744073709551616) := fun k => getD_lt cb.wd k
  have HTA : Hid (la.take n = la) := List.take_of_length_le (by omega)
  have HTB : Hid (lb.take m = lb) := List.take_of_length_le (by omega)
  have HCA : Hid (0 < n → ∃ b off, a = some ⟨b, off, none⟩ ∧ b < w.heap.size ∧ ∀ X, Below w.heap.size w X → ∀ i, i < n → X.cell? ⟨b, off + i, none⟩ = some (.int .u64 ((la.getD i 0 : Nat) : Int))) := fun h0 => by
    obtain ⟨b, off, h1, h2, h3⟩ := ha.at h0
    exact ⟨b, off, h1, h2, fun X hX i hi => (World.cell?_of_block (hX.block b h2)).trans (h3 i hi)⟩
  have HCB : Hid (0 < m → ∃ b off, a2 = some ⟨b, off, none⟩ ∧ b < w.heap.size ∧ ∀ X, Below w.heap.size w X → ∀ i, i < m → X.cell? ⟨b, off + i, none⟩ = some (.int .u64 ((lb.getD i 0 : Nat) : Int))) := fun h0 => by
    obtain ⟨b, off, h1, h2, h3⟩ := hb.at h0
    exact ⟨b, off, h1, h2, fun X hX i hi => (World.cell?_of_block (hX.block b h2)).trans (h3 i hi)⟩
  clear ha hb hla hlb ca cb
  go_enter Try.func8, Try.ntmps8
  go_wp2_with fail
  refine (HR1.out w (Below.refl _ _)).mono ?_
  rintro e w1 ⟨rfl, rfl⟩
  go_wp2_with fail
  refine (HR2.out w (Below.refl _ _)).mono ?_
  rintro e w1 ⟨rfl, rfl⟩
  go_wp2_with (refine wpList_make_full _ rfl _ _ 22 rfl w.heap.size 28 i0 (.int .u64 0) 1 Try.underlying22 hi0 hz0 hz1 .i64 .i64 _ _ L rfl rfl rfl rfl ?b2 ?b3 (Nat.le_refl _) ?_)
  case b2 => rw [hz2]; omega
  case b3 => unfold maxLen; omega
  intro w4 hown hgr
  have hB4 : Below w.heap.size w w4 := (Below.refl _ _).grown hgr (Nat.le_refl _) (fun k hk => by cases hk)
  rw [zeros_castN] at hown
  have HO4 := Lib.hid hown
  have HB4 := Lib.hid hB4
  clear hown hB4 hgr HR1 HR2 hLI hLw
  go_wp2_with fail
  obtain ⟨g, hg⟩ : ∃ g, w.heap.size = g := ⟨_, rfl⟩
  have HGE : Hid (w.heap.size ≤ g) := by show _ ≤ _; omega
  have HOg : Hid (w4.ownsRow w.heap.size 28 1 (.slice (some ⟨g, 0, none⟩) L L) L ((castN (List.replicate L 0)).map (Value.int .u64))) := by
    have := HO4.out
    rw [hg] at this ⊢
    exact this
  clear HO4
  have HP0 : Hid ((List.replicate L 0).length = L ∧ Wd (List.replicate L 0) ∧ (∀ k, 0 + m ≤ k → (List.replicate L 0).getD k 0 = 0) ∧ val (List.replicate L 0) = val (la.take 0) * val lb) := by
    refine ⟨by simp, fun x hx => by have := List.eq_of_mem_replicate hx; omega, fun k _ => ?_, by rw [val_zeros]; simp [val]⟩
    rw [List.getD_eq_getElem?_getD, List.getElem?_replicate]
    split <;> rfl
  simp only [hg]
  clear hg
  go_loopw [31] (fun iv wr => ∃ i : Nat, ∃ o : List Nat, i ≤ n ∧ iv = .int .i64 i ∧ Hid (o.length = L ∧ Wd o ∧ (∀ k, i + m ≤ k → o.getD k 0 = 0) ∧ val o = val (la.take i) * val lb) ∧ Hid (wr.ownsRow w.heap.size 28 1 (.slice (some ⟨g, 0, none⟩) L L) L ((castN o).map (Value.int .u64))) ∧ Hid (Below w.heap.size w wr)) (fun iv _ => n - (intOf iv).toNat)
  case atStart => exact ⟨0, _, Nat.zero_le _, rfl, HP0.out, HOg.out, HB4.out⟩
  case round =>
    clear HP0 HOg HB4
    obtain ⟨i, o, hi, rfl, HP, HO, HB⟩ := hrel
    by_cases hin : i < n
    · have hiI : (i : Int) < (n : Int) := by omega
      obtain ⟨b, off, rfl, hb, hca⟩ := HCA.out (by omega)
      have cx := hca wr HB.out i hin
      have HCAn : Hid (∀ X, Below w.heap.size w X → ∀ i, i < n → X.cell? ⟨b, off + i, none⟩ = some (.int .u64 ((la.getD i 0 : Nat) : Int))) := hca
      have hx := HXA.out i
      have HSA : Hid (val (la.take (i + 1)) = val (la.take i) + 18446744073709551616 ^ i * la.getD i 0) := val_take la i
      generalize hxx : la.getD i 0 = x at *
      clear hca hxx
      go_wp2_with fail
      go_loopw [38, 9] (fun jv cv wr => ∃ j cy : Nat, ∃ o' : List Nat, j ≤ m ∧ cy < 18446744073709551616 ∧ jv = .int .i64 j ∧ cv = .int .u64 cy ∧ Hid (o'.length = L ∧ Wd o' ∧ (∀ k, i + m ≤ k → o'.getD k 0 = 0) ∧ val o' + 18446744073709551616 ^ i * 18446744073709551616 ^ j * cy = val (la.take i) * val lb + 18446744073709551616 ^ i * (x * val (lb.take j))) ∧ Hid (wr.ownsRow w.heap.size 28 1 (.slice (some ⟨g, 0, none⟩) L L) L ((castN o').map (Value.int .u64))) ∧ Hid (Below w.heap.size w wr)) (fun jv _ _ => m - (intOf jv).toNat)
      case atStart => exact ⟨0, 0, o, Nat.zero_le _, by omega, rfl, rfl, ⟨HP.out.1, HP.out.2.1, HP.out.2.2.1, by rw [HP.out.2.2.2]; simp [val]⟩, HO.out, HB.out⟩
      case round =>
        clear HP HO HB cx
        obtain ⟨j, cy, o', hj, hcy, rfl, rfl, HP, HO, HB⟩ := hrel
        by_cases hjm : j < m
        · have hjI : (j : Int) < (m : Int) := by omega
          obtain ⟨b', off', rfl, hb', hcb⟩ := HCB.out (by omega)
          have cj := hcb wr HB.out j hjm
          have hy := HXB.out j
          have HSB : Hid (val (lb.take (j + 1)) = val (lb.take j) + 18446744073709551616 ^ j * lb.getD j 0) := val_take lb j
          generalize hyy : lb.getD j 0 = y at *
          obtain ⟨q, hq⟩ : ∃ q, i + j = q := ⟨_, rfl⟩
          have hqL : q < L := by omega
          have hqI : (q : Int) < (L : Int) := by omega
          have eq1 : IntKind.i64.wrap ((i : Int) + (j : Int)) = (q : Int) := by rw [IntKind.wrap_i64]; omega
          have co := own_get HO.out q hqL
          rw [castN_get] at co
          have fo : wr.frozen? ⟨g, q, none⟩ = false := HO.out.frozenAt q
          have hold := getD_lt HP.out.2.1 q
          have HST := Lib.hid (fun s => val_set o' q s (by rw [HP.out.1]; exact hqL))
          generalize hoo : o'.getD q 0 = old at *
          obtain ⟨z, hz⟩ : ∃ z, x * y = z := ⟨_, rfl⟩
          have HM : Hid (∀ X, Calls Try.prog 16 #[.int .u64 x, .int .u64 y] X fun e w' => e = .returned (.tuple #[.int .u64 ((z / 18446744073709551616 : Nat) : Int), .int .u64 ((z % 18446744073709551616 : Nat) : Int)]) ∧ X = w') := fun X => by rw [← hz]; exact (Try.bits_Mul64 x y hx hy X).mono fun e w' ⟨h1, h2⟩ => ⟨h1, h2.symm⟩
          have hzb := mul_bd hx hy hz
          have H1 : Hid (z % 18446744073709551616 + 18446744073709551616 * (z / 18446744073709551616) = z) := Nat.mod_add_div _ _
          generalize z / 18446744073709551616 = hi' at *
          generalize z % 18446744073709551616 = lo at *
          have e641 := fun (w : World) => add64_0 lo cy _ _ rfl rfl w
          have H2 : Hid ((lo + cy) % 18446744073709551616 + 18446744073709551616 * ((lo + cy) / 18446744073709551616) = lo + cy) := Nat.mod_add_div _ _
          generalize (lo + cy) / 18446744073709551616 = d1 at *
          generalize (lo + cy) % 18446744073709551616 = l2 at *
          have e642 := fun (w : World) => add64_0 old l2 _ _ rfl rfl w
          have H3 : Hid ((old + l2) % 18446744073709551616 + 18446744073709551616 * ((old + l2) / 18446744073709551616) = old + l2) := Nat.mod_add_div _ _
          have hs : (old + l2) % 18446744073709551616 < 18446744073709551616 := Nat.mod_lt _ (by decide)
          generalize (old + l2) / 18446744073709551616 = d2 at *
          generalize (old + l2) % 18446744073709551616 = s at *
          obtain ⟨k1, k2, k3⟩ := mul_word hzb hold hcy H1.out H2.out H3.out
          have ew1 : IntKind.u64.wrap ((hi' : Int) + (d1 : Int)) = ((hi' + d1 : Nat) : Int) := by rw [IntKind.wrap_u64]; omega
          have ew2 : IntKind.u64.wrap (((hi' + d1 : Nat) : Int) + (d2 : Int)) = ((hi' + d1 + d2 : Nat) : Int) := by rw [IntKind.wrap_u64]; omega
          generalize hi' + d1 = h2 at *
          generalize h2 + d2 = cy2 at *
          have HPn : Hid ((o'.set q s).length = L ∧ Wd (o'.set q s) ∧ (∀ k, i + m ≤ k → (o'.set q s).getD k 0 = 0) ∧ val (o'.set q s) + 18446744073709551616 ^ i * 18446744073709551616 ^ (j + 1) * cy2 = val (la.take i) * val lb + 18446744073709551616 ^ i * (x * val (lb.take (j + 1)))) := by
            obtain ⟨p1, p2, p3, p4⟩ := HP.out
            refine ⟨by rw [List.length_set, p1], wd_set p2 hs, fun k hk => by rw [getD_setN _ _ _ _ (by omega)]; exact p3 k hk, ?_⟩
            have h5 := HST.out s
            rw [← hq, Nat.pow_add] at h5
            rw [HSB.out, Nat.pow_succ]
            rw [hq] at h5
            have k4 : s + 18446744073709551616 * cy2 = old + x * y + cy := by rw [hz]; exact k3
            exact mul_stepB h5 p4 k4
          have HOn : Hid ((wr.setCell ⟨g, q, none⟩ (.int .u64 s)).ownsRow w.heap.size 28 1 (.slice (some ⟨g, 0, none⟩) L L) L ((castN (o'.set q s)).map (Value.int .u64))) := ownN_set HO.out q s
          have HBn : Hid (Below w.heap.size w (wr.setCell ⟨g, q, none⟩ (.int .u64 s))) := HB.out.setCell HGE.out _
          clear hcb hyy hoo hz hzb hs k1 k3 hold hq HP HO hx hy hcy
          go_wp2_with fail
          refine (HM.out wr).mono ?_
          rintro e w7 ⟨rfl, rfl⟩
          go_wp2_with fail
          go_roundw
          case rel => exact ⟨j + 1, cy2, _, by omega, k2, by go_num, rfl, HPn.out, HOn.out, HBn.out⟩
          case measure => simp [intOf]; omega
        · obtain rfl : j = m := by omega
          obtain ⟨q, hq⟩ : ∃ q, i + j = q := ⟨_, rfl⟩
          have hqL : q < L := by omega
          have hqI : (q : Int) < (L : Int) := by omega
          have eq1 : IntKind.i64.wrap ((i : Int) + (j : Int)) = (q : Int) := by rw [IntKind.wrap_i64]; omega
          have co := own_get HO.out q hqL
          have fo : wr.frozen? ⟨g, q, none⟩ = false := HO.out.frozenAt q
          have HPn : Hid ((o'.set q cy).length = L ∧ Wd (o'.set q cy) ∧ (∀ k, i + 1 + j ≤ k → (o'.set q cy).getD k 0 = 0) ∧ val (o'.set q cy) = val (la.take (i + 1)) * val lb) := by
            obtain ⟨p1, p2, p3, p4⟩ := HP.out
            refine ⟨by rw [List.length_set, p1], wd_set p2 hcy, fun k hk => by rw [getD_setN _ _ _ _ (by omega)]; exact p3 k (by omega), ?_⟩
            have h5 := val_set o' q cy (by rw [p1]; exact hqL)
            rw [p3 q (by omega), ← hq, Nat.pow_add, Nat.mul_zero, Nat.add_zero] at h5
            rw [hq] at h5
            rw [h5, p4, HSA.out, HTB.out]
            rw [Nat.add_mul, Nat.mul_assoc]
          have HOn : Hid ((wr.setCell ⟨g, q, none⟩ (.int .u64 cy)).ownsRow w.heap.size 28 1 (.slice (some ⟨g, 0, none⟩) L L) L ((castN (o'.set q cy)).map (Value.int .u64))) := ownN_set HO.out q cy
          have HBn : Hid (Below w.heap.size w (wr.setCell ⟨g, q, none⟩ (.int .u64 cy))) := HB.out.setCell HGE.out _
          clear hq HP HO
          go_wp2_with fail
          exact ⟨⟨i + 1, _, by omega, by go_num, HPn.out, HOn.out, HBn.out⟩, by simp [intOf]; omega⟩
    · obtain rfl : i = n := by omega
      obtain ⟨p1, p2, p3, p4⟩ := HP.out
      obtain ⟨av, kv, hav, HTR⟩ := ends_any w.heap.size L _ o wr HO.out p2
      cases hav
      have HT := Lib.hid HTR
      have HVAL : Hid (val (trimL o) = val la * val lb) := by
        show _ = _
        rw [val_trimL, p4, HTA.out]
      have HCN : Hid (Canon (trimL o)) := trimL_canon p2
      clear HTR p1 p2 p3 p4
      go_wp2_with fail
      refine HT.out.mono ?_
      rintro e w7 ⟨a', k, rfl, hk, hr, rfl⟩
      have HK := Lib.hid hk
      have HRR := Lib.hid hr
      clear hk hr
      go_wp2_with fail
      refine (fits_any a' k k wr).mono ?_
      rintro e w8 ⟨rfl, rfl⟩
      by_cases hk64 : k ≤ 64
      · rw [if_pos hk64]
        go_wp2_with fail
        go_ret2
        exact ⟨HB.out, _, HCN.out, HVAL.out, .inl ⟨by rw [HK.out]; exact hk64, _, rfl, HRR.out⟩⟩
      · rw [if_neg hk64]
        go_wp2_with fail
        go_ret2
        exact ⟨HB.out, _, HCN.out, HVAL.out, .inr ⟨by rw [HK.out]; omega, rfl⟩⟩
end Go.Proofs.Ytkaejoejaohpcaa
