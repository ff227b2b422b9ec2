/- alias.Make: the walk. No condition. -/
import Derived.Test.YtambhciacmkdoaaMake
import Derived.RegionTactic
import Derived.BigRegion
set_option linter.unusedSimpArgs false
set_option linter.unusedVariables false
namespace Go.Proofs.Ytambhciacmkdoaa
open Go.RowKit
def boolsOf (n : Nat) (D : Nat → Bool) : List Bool := (List.range n).map D
theorem boolsOf_get (n : Nat) (D : Nat → Bool) {i : Nat} (h : i < n) : (boolsOf n D).getD i false = D i := by
  simp [boolsOf, List.getD_eq_getElem?_getD, List.getElem?_map, List.getElem?_range, h]
theorem boolsOf_set (n : Nat) (D : Nat → Bool) (l : Nat) : (boolsOf n D).set l true = boolsOf n (fun k => if k = l then true else D k) := by
  apply List.ext_getElem (by simp [boolsOf])
  intro i h1 h2
  simp only [boolsOf, List.getElem_set, List.getElem_map, List.getElem_range]
  by_cases h : l = i
  · subst h; simp
  · rw [if_neg h, if_neg (fun e => h e.symm)]
theorem boolsOf_false (n : Nat) : List.replicate n false = boolsOf n (fun _ => false) := by
  apply List.ext_getElem (by simp [boolsOf])
  intro i h1 h2; simp [boolsOf]
theorem OS.keepAt {w w' : World} {base B g n : Nat} {V T : Nat → Nat} (h : OS w base g n V T) (hb : Below B w w') (hg : g < B) : OS w' base g n V T := by
  refine ⟨h.1, ?_⟩
  rcases h.2 with hn | ⟨g', cap, cur, heq, hbs, hgg, rest⟩
  · exact .inl hn
  · refine .inr ⟨g', cap, cur, heq, hbs, ?_, rest⟩
    cases heq
    rw [hb.block g hg]
    exact hgg
theorem step_if {i y : Nat} {F : Nat → Nat} {G : Nat → Nat} (hy : F i = y) (k : Nat) : (if k = i then y else if k < i then F k else G k) = if k < i + 1 then F k else G k := by
  by_cases e : k = i
  · subst e; rw [if_pos rfl, if_pos (by omega), hy]
  · rw [if_neg e]
    by_cases e2 : k < i
    · rw [if_pos e2, if_pos (by omega)]
    · rw [if_neg e2, if_neg (by omega)]
theorem undone_all : ∀ n, undone (fun _ => false) n = n
  | 0 => rfl
  | n + 1 => by rw [undone, undone_all n]; rfl
set_option maxHeartbeats 3200000 in
set_option maxRecDepth 20000 in
theorem make_ok (v : Value) (zs : List Int) (w : World) (h : Rd w v zs) (hk : OkW zs) (hS : tot (nd zs) zs.length ≠ 0) :
    Calls Try.prog 9 #[v] w fun e w' => Below w.heap.size w w' ∧ ∃ g, e = .returned (.tuple #[.slice (some ⟨g, 0, none⟩) zs.length zs.length, .int .i64 0]) ∧ OS w' w.heap.size g zs.length (fin zs.length (tot (nd zs) zs.length) (nd zs)).V (fin zs.length (tot (nd zs) zs.length) (nd zs)).T := by
  obtain ⟨i3, hinfo3, hz0, hz1, hz2⟩ := info_parts Try.info3t
  obtain ⟨i4, hinfo4, hy0, hy1, hy2⟩ := info_parts Try.info4t
  obtain ⟨i33, hinfo33, hx0, hx1, hx2⟩ := info_parts Try.info33t
  have HSM := Lib.hid (sum_any v zs w h)
  rw [show smV zs = tot (nd zs) zs.length by unfold smV; rw [if_pos hk], show smE zs = 0 by unfold smE; rw [if_pos hk, if_neg hS]] at HSM
  obtain ⟨a, cap, rfl, hlc, hcm, hop⟩ := h.open
  have HOP := Lib.hid hop
  have hn1 := hk.1
  have hn2 := hk.2.1
  have HND : Hid (∀ k, k < zs.length → zs.getD k 0 = (nd zs k : Int)) := fun k hk' => hk.nd hk'
  have HNB := Lib.hid hk.le
  have hSb : tot (nd zs) zs.length ≤ 419430400 := by
    have := tot_le (f := nd zs) (c := 1048576) (k := zs.length) (fun i _ => hk.le i)
    have h2 := Nat.mul_le_mul hn2 (Nat.le_refl 1048576)
    omega
  clear h hk hop
  generalize zs.length = n at *
  obtain ⟨S, hSS⟩ : ∃ S, tot (nd zs) n = S := ⟨_, rfl⟩
  rw [hSS] at hS hSb HSM ⊢
  clear hSS
  have b3 : i3.bytes * n ≤ 281474976710656 := by rw [hz2]; omega
  have b4 : i4.bytes * n ≤ 281474976710656 := by rw [hy2]; omega
  have b33 : i33.bytes * n ≤ 281474976710656 := by rw [hx2]; omega
  have bm : n ≤ maxLen := by unfold maxLen; omega
  go_enter Try.func9, Try.ntmps9
  go_wp2_with fail
  refine HSM.out.mono ?_
  rintro e w' ⟨rfl, rfl⟩
  go_wp2_with (refine wpList_make_full _ rfl _ _ 22 rfl w'.heap.size 3 i3 (.int .i64 0) 1 Try.underlying22 hinfo3 hz0 hz1 .i64 .i64 _ _ n rfl rfl ?hL ?hC b3 bm (Nat.le_refl _) ?_)
  case hL => simp
  case hC => simp
  intro w1 hown1 hgr1
  have HB1 := Lib.hid ((Below.refl w'.heap.size w').grown hgr1 (Nat.le_refl _) (fun k hk => by cases hk))
  have HO1 := Lib.hid (OC.made (g := w'.heap.size) hown1)
  have hlt1 := HO1.out.lt.2
  have hs1 := HB1.out.size
  clear hown1 hgr1
  go_wp2_with (refine wpList_make_full _ rfl _ _ 27 rfl w1.heap.size 33 i33 (.agg #[.int .i64 0, .int .i64 0]) 2 Try.underlying27 hinfo33 hx0 hx1 .i64 .i64 _ _ n rfl rfl ?hL2 ?hC2 b33 bm (Nat.le_refl _) ?_)
  case hL2 => simp
  case hC2 => simp
  intro w2 hown2 hgr2
  have hb2 := (Below.refl w1.heap.size w1).grown hgr2 (Nat.le_refl _) (fun k hk => by cases hk)
  have HB2 := Lib.hid (HB1.out.trans (hb2.mono hs1))
  have HO12 := Lib.hid (HO1.out.below hb2 (Nat.le_refl _))
  have HO2 := Lib.hid (OS.made (g := w1.heap.size) hown2)
  have hlt2 := World.ownsRow.lt HO2.out _ rfl
  clear hown2 hgr2 hb2
  obtain ⟨g1, hg1⟩ : ∃ g1, w'.heap.size = g1 := ⟨_, rfl⟩
  obtain ⟨g2, hg2⟩ : ∃ g2, w1.heap.size = g2 := ⟨_, rfl⟩
  rw [hg1] at HB1 HB2 HO1 HO12 hlt1 hs1 ⊢
  rw [hg2] at HO2 hlt1 hlt2 hs1 ⊢
  have HG1 := Lib.hid hg1
  clear hg1 hg2 HO1 HB1
  go_wp2_with fail
  have hg12 : g1 < g2 := hlt1
  go_loopw [32, 9, 10] (fun iv _ _ wr => ∃ i : Nat, i ≤ n ∧ iv = .int .i64 i ∧ Below g1 w' wr ∧ OC wr g1 g1 n n (fun k => if k < i then nd zs k * n else 0) ∧ OS wr g2 g2 n (fun k => if k < i then S else 0) (fun k => if k < i then k else 0)) (fun iv _ _ _ => n - (intOf iv).toNat)
  case atStart => exact ⟨0, Nat.zero_le _, rfl, HB2.out, HO12.out.congr (fun k _ => by rw [if_neg (by omega)]), HO2.out.congr (fun k _ => by rw [if_neg (by omega)]) (fun k _ => by rw [if_neg (by omega)])⟩
  case round =>
    clear HB2 HO12 HO2 hlt2
    obtain ⟨i, hi, rfl, hbel, ho1, ho2⟩ := hrel
    by_cases hlt : i < n
    · obtain ⟨b, off, rfl, hb, hc⟩ := HOP.out i hlt
      have cx := (World.cell?_of_block (hbel.block b (by rw [← HG1.out]; exact hb))).trans (hc i hlt)
      rw [HND.out i hlt] at cx
      have c1 := ho1.get i hlt
      have f1 := ho1.frozen i
      have c2 := ho2.level hlt
      have c3 := ho2.who hlt
      have f2 := ho2.frozen (i * 2)
      have f3 := ho2.frozen (i * 2 + 1)
      have hx := HNB.out i
      have hxn := Nat.mul_le_mul hx hn2
      have HST1 := Lib.hid (ho1.set i (nd zs i * n))
      have hpr : (nd zs i : Int) * (n : Int) = ((nd zs i * n : Nat) : Int) := rfl
      have HBE := Lib.hid hbel
      have HO1 := Lib.hid ho1
      have HO2 := Lib.hid ho2
      clear hbel ho1 ho2 hc
      obtain ⟨z, hz⟩ : ∃ z, nd zs i * n = z := ⟨_, rfl⟩
      rw [hz] at hpr hxn HST1
      have HZ := Lib.hid hz
      clear hz
      have HF : Hid (∀ j, j = i → nd zs j * n = z) := fun j h => by rw [h]; exact HZ.out
      clear HZ
      generalize nd zs i = x at *
      go_wp2_with fail
      have hbS : Below g2 (wr.setCell ⟨g1, i, none⟩ (.int .i64 (z : Int))) (((wr.setCell ⟨g1, i, none⟩ (.int .i64 (z : Int))).setCell ⟨g2, i * 2, none⟩ (.int .i64 (S : Int))).setCell ⟨g2, i * 2 + 1, none⟩ (.int .i64 (i : Int))) :=
        ((Below.refl _ _).setCell (show g2 ≤ (⟨g2, i * 2, none⟩ : Addr).block from Nat.le_refl _) _).setCell (show g2 ≤ (⟨g2, i * 2 + 1, none⟩ : Addr).block from Nat.le_refl _) _
      refine ⟨⟨i + 1, by omega, by go_num, (HBE.out.setCell (show g1 ≤ (⟨g1, i, none⟩ : Addr).block from Nat.le_refl _) _).trans (hbS.mono (by omega)), (HST1.out.keepAt hbS hg12).congr (fun k _ => step_if (F := fun k => nd zs k * n) (G := fun _ => 0) (HF.out i rfl) k), ?_⟩, by simp [intOf]; omega⟩
      have h2 : OS (wr.setCell ⟨g1, i, none⟩ (.int .i64 (z : Int))) g2 g2 n (fun k => if k < i then S else 0) (fun k => if k < i then k else 0) := own_store HO2.out (show (⟨g1, i, none⟩ : Addr).block < g2 from hg12) _
      exact (h2.set hlt S i).congr (fun k _ => step_if (F := fun _ => S) (G := fun _ => 0) rfl k) (fun k _ => step_if (F := fun k => k) (G := fun _ => 0) rfl k)
    · obtain rfl : i = n := by omega
      have HO1 := Lib.hid (ho1.congr (f' := (st0 i S (nd zs)).L) (fun k hk => by rw [if_pos hk]; rfl))
      have HO2 := Lib.hid (ho2.congr (V' := (st0 i S (nd zs)).V) (T' := (st0 i S (nd zs)).T) (fun k hk => by rw [if_pos hk]; rfl) (fun k hk => by rw [if_pos hk]; rfl))
      have HBE := Lib.hid hbel
      have hlt2 := World.ownsRow.lt HO2.out _ rfl
      clear ho1 ho2 hbel
      go_wp2_with (refine wpList_make_full _ rfl _ _ 39 rfl wr.heap.size 4 i4 (.bool false) 1 Try.underlying39 hinfo4 hy0 hy1 .i64 .i64 _ _ i rfl rfl ?hL3 ?hC3 b4 bm (Nat.le_refl _) ?_)
      case hL3 => simp
      case hC3 => simp
      intro w3 hown3 hgr3
      have hb3 := (Below.refl wr.heap.size wr).grown hgr3 (Nat.le_refl _) (fun k hk => by cases hk)
      rw [falses_eq, boolsOf_false] at hown3
      have HO13 := Lib.hid (HO1.out.below hb3 (Nat.le_refl _))
      have HO23 := Lib.hid (HO2.out.below hb3 (Nat.le_refl _))
      have HB3 := Lib.hid (HBE.out.trans (hb3.mono (by rw [← HG1.out]; exact HBE.out.size)))
      have HO3 := Lib.hid hown3
      obtain ⟨g3, hg3⟩ : ∃ g3, wr.heap.size = g3 := ⟨_, rfl⟩
      rw [hg3] at HO3 hlt2 ⊢
      have hg23 : g2 < g3 := hlt2.2
      have HL0 : Hid (∀ k, (st0 i S (nd zs)).L k ≤ 419430400) := fun k => by
        have := Nat.mul_le_mul (HNB.out k) hn2
        show nd zs k * i ≤ _
        omega
      clear hown3 hgr3 hb3 hg3 b3 b4 b33 bm HO1 HO2 HBE hlt2
      go_wp2_with fail
      go_loopg [12, 13, 14, 15] i (fun m _ _ _ _ wr => ∃ s : St, undone s.D i ≤ m ∧ Hid (fin i S (nd zs) = run i S m s) ∧ Below g1 w' wr ∧ OC wr g1 g1 i i s.L ∧ OS wr g2 g2 i s.V s.T ∧ wr.ownsRow g3 4 1 (.slice (some ⟨g3, 0, none⟩) i i) i ((boolsOf i s.D).map Value.bool) ∧ Hid (∀ k, s.L k ≤ 419430400))
      case atStart => exact ⟨st0 i S (nd zs), Nat.le_of_eq (undone_all i), rfl, HB3.out, HO13.out, HO23.out, HO3.out, HL0⟩
      case round =>
        clear HB3 HO13 HO23 HO3 HL0
        obtain ⟨s, hun, hfin, hbel, ho1, ho2, ho3, hL⟩ := hrel
        have HBE := Lib.hid hbel
        have HO1 := Lib.hid ho1
        have HO2 := Lib.hid ho2
        have HO3 := Lib.hid ho3
        clear hbel ho1 ho2 ho3
        go_wp2_with fail
        go_loop [12, 13, 14, 15, 54] (fun lv hv _ _ kv => ∃ k : Nat, k ≤ i ∧ kv = .int .i64 k ∧ lv = .int .i64 (fl (lowp S s.L s.D) k) ∧ hv = .int .i64 (fl (highp S s.L s.D) k)) (fun _ _ _ _ kv => i - (intOf kv).toNat)
        case atStart => exact ⟨0, Nat.zero_le _, rfl, rfl, rfl⟩
        case round =>
          obtain ⟨k, hk, rfl, rfl, rfl⟩ := hrel
          by_cases hlt : k < i
          · have cl := HO1.out.get k hlt
            have cd := ownb_get HO3.out k hlt
            rw [boolsOf_get _ _ hlt] at cd
            have HL1 : Hid (fl (lowp S s.L s.D) (k + 1) = if fl (lowp S s.L s.D) k < 0 ∧ lowp S s.L s.D k = true then (k : Int) else fl (lowp S s.L s.D) k) := rfl
            have HH1 : Hid (fl (highp S s.L s.D) (k + 1) = if fl (highp S s.L s.D) k < 0 ∧ highp S s.L s.D k = true then (k : Int) else fl (highp S s.L s.D) k) := rfl
            have HLP : Hid (lowp S s.L s.D k = (!s.D k && decide (s.L k < S))) := rfl
            have HHP : Hid (highp S s.L s.D k = (!s.D k && decide (S < s.L k))) := rfl
            have hLk := hL.out k
            rw [HLP.out] at HL1
            rw [HHP.out] at HH1
            clear HLP HHP
            generalize fl (lowp S s.L s.D) k = lv at *
            generalize fl (highp S s.L s.D) k = hv at *
            generalize s.L k = x at *
            generalize s.D k = d at *
            cases d with
            | true =>
              have E1 : Hid (fl (lowp S s.L s.D) (k + 1) = lv) := by show _ = _; rw [HL1.out, if_neg (by simp)]
              have E2 : Hid (fl (highp S s.L s.D) (k + 1) = hv) := by show _ = _; rw [HH1.out, if_neg (by simp)]
              go_wp2_with fail
              exact ⟨⟨k + 1, by omega, by go_num, by rw [E1.out], by rw [E2.out]⟩, by simp [intOf]; omega⟩
            | false =>
              by_cases k1 : x < S
              · have f1 : decide ((x : Int) < (S : Int)) = true := decide_eq_true (by omega)
                have f2 : decide ((S : Int) < (x : Int)) = false := decide_eq_false (by omega)
                by_cases k2 : lv < 0
                · have f3 : decide (lv < 0) = true := decide_eq_true k2
                  have E1 : Hid (fl (lowp S s.L s.D) (k + 1) = (k : Int)) := by show _ = _; rw [HL1.out, if_pos ⟨k2, by simp [k1]⟩]
                  have E2 : Hid (fl (highp S s.L s.D) (k + 1) = hv) := by show _ = _; rw [HH1.out, if_neg (by simp; omega)]
                  go_wp2_with fail
                  exact ⟨⟨k + 1, by omega, by go_num, by rw [E1.out], by rw [E2.out]⟩, by simp [intOf]; omega⟩
                · have f3 : decide (lv < 0) = false := decide_eq_false k2
                  have E1 : Hid (fl (lowp S s.L s.D) (k + 1) = lv) := by show _ = _; rw [HL1.out, if_neg (fun h => k2 h.1)]
                  have E2 : Hid (fl (highp S s.L s.D) (k + 1) = hv) := by show _ = _; rw [HH1.out, if_neg (by simp; omega)]
                  go_wp2_with fail
                  exact ⟨⟨k + 1, by omega, by go_num, by rw [E1.out], by rw [E2.out]⟩, by simp [intOf]; omega⟩
              · have f1 : decide ((x : Int) < (S : Int)) = false := decide_eq_false (by omega)
                by_cases k3 : S < x
                · have f2 : decide ((S : Int) < (x : Int)) = true := decide_eq_true (by omega)
                  by_cases k2 : hv < 0
                  · have f3 : decide (hv < 0) = true := decide_eq_true k2
                    have E1 : Hid (fl (lowp S s.L s.D) (k + 1) = lv) := by show _ = _; rw [HL1.out, if_neg (by simp; omega)]
                    have E2 : Hid (fl (highp S s.L s.D) (k + 1) = (k : Int)) := by show _ = _; rw [HH1.out, if_pos ⟨k2, by simp [k3]⟩]
                    go_wp2_with fail
                    exact ⟨⟨k + 1, by omega, by go_num, by rw [E1.out], by rw [E2.out]⟩, by simp [intOf]; omega⟩
                  · have f3 : decide (hv < 0) = false := decide_eq_false k2
                    have E1 : Hid (fl (lowp S s.L s.D) (k + 1) = lv) := by show _ = _; rw [HL1.out, if_neg (by simp; omega)]
                    have E2 : Hid (fl (highp S s.L s.D) (k + 1) = hv) := by show _ = _; rw [HH1.out, if_neg (fun h => k2 h.1)]
                    go_wp2_with fail
                    exact ⟨⟨k + 1, by omega, by go_num, by rw [E1.out], by rw [E2.out]⟩, by simp [intOf]; omega⟩
                · have f2 : decide ((S : Int) < (x : Int)) = false := decide_eq_false (by omega)
                  have E1 : Hid (fl (lowp S s.L s.D) (k + 1) = lv) := by show _ = _; rw [HL1.out, if_neg (by simp; omega)]
                  have E2 : Hid (fl (highp S s.L s.D) (k + 1) = hv) := by show _ = _; rw [HH1.out, if_neg (by simp; omega)]
                  go_wp2_with fail
                  exact ⟨⟨k + 1, by omega, by go_num, by rw [E1.out], by rw [E2.out]⟩, by simp [intOf]; omega⟩
          · obtain rfl : k = i := by omega
            rw [show fl (lowp S s.L s.D) k = loF k S s from rfl, show fl (highp S s.L s.D) k = hiF k S s from rfl]
            have HEND : Hid (loF k S s < 0 ∨ hiF k S s < 0 → OS wr w'.heap.size g2 k (fin k S (nd zs)).V (fin k S (nd zs)).T) := fun c => by
              rw [hfin.out, run_done c, HG1.out]
              exact own_base HO2.out (Nat.le_of_lt hg12)
            by_cases c1 : loF k S s < 0
            · have HE := Lib.hid (HEND.out (.inl c1))
              have f1 : decide (loF k S s < 0) = true := decide_eq_true c1
              clear HEND c1 hun
              generalize loF k S s = lv at *
              generalize hiF k S s = hv at *
              go_wp2_with fail
              go_ret2
              exact ⟨by rw [HG1.out]; exact HBE.out, g2, rfl, HE.out⟩
            · have f1 : decide (loF k S s < 0) = false := decide_eq_false c1
              by_cases c2 : hiF k S s < 0
              · have HE := Lib.hid (HEND.out (.inr c2))
                have f2 : decide (hiF k S s < 0) = true := decide_eq_true c2
                clear HEND c1 c2 hun
                generalize loF k S s = lv at *
                generalize hiF k S s = hv at *
                go_wp2_with fail
                go_ret2
                exact ⟨by rw [HG1.out]; exact HBE.out, g2, rfl, HE.out⟩
              · obtain ⟨l, e1, hl1, hl2⟩ := fl_at (p := lowp S s.L s.D) (k := k) (by have : ¬ loF k S s < 0 := c1; unfold loF at this; omega)
                obtain ⟨h, e2, hh1, hh2⟩ := fl_at (p := highp S s.L s.D) (k := k) (by have : ¬ hiF k S s < 0 := c2; unfold hiF at this; omega)
                have e1 : loF k S s = (l : Int) := e1
                have e2 : hiF k S s = (h : Int) := e2
                have hlx : s.D l = false ∧ s.L l < S := by unfold lowp at hl2; simpa using hl2
                have hhx : s.D h = false ∧ S < s.L h := by unfold highp at hh2; simpa using hh2
                have hnu := nxt_undone (n := k) (S := S) (s := s) (by omega)
                obtain ⟨m', hm'⟩ : ∃ m', gk = m' + 1 := ⟨gk - 1, by omega⟩
                have HRUN : Hid (fin k S (nd zs) = run k S m' (nxt k S s)) := by
                  show _ = _
                  rw [hfin.out, hm', run, if_neg (by omega)]
                have HNL : Hid ((nxt k S s).L = upd s.L h (s.L h - (S - s.L l))) := by show _ = _; unfold nxt; simp [e1, e2]
                have HND2 : Hid (∀ j, (nxt k S s).D j = if j = l then true else s.D j) := fun j => by unfold nxt; simp [e1]
                have HNV : Hid ((nxt k S s).V = upd s.V l (s.L l)) := by show _ = _; unfold nxt; simp [e1]
                have HNT : Hid ((nxt k S s).T = upd s.T l h) := by show _ = _; unfold nxt; simp [e1, e2]
                rw [e1, e2]
                have hne : l ≠ h := fun e => by subst e; omega
                have cl := HO1.out.get l hl1
                have ch := HO1.out.get h hh1
                have fh := HO1.out.frozen h
                have c2l := HO2.out.level hl1
                have c2w := HO2.out.who hl1
                have f2l := HO2.out.frozen (l * 2)
                have f2w := HO2.out.frozen (l * 2 + 1)
                have cd := ownb_get HO3.out l hl1
                have fd := World.ownsRow.frozenAt HO3.out l
                rw [boolsOf_get _ _ hl1, hlx.1] at cd
                have hLl := hL.out l
                have hLh := hL.out h
                have hxS := hlx.2
                have hyS := hhx.2
                have f3 : decide ((l : Int) < 0) = false := decide_eq_false (by omega)
                have f4 : decide ((h : Int) < 0) = false := decide_eq_false (by omega)
                have hsub : (s.L h : Int) - ((S : Int) - (s.L l : Int)) = ((s.L h - (S - s.L l) : Nat) : Int) := by omega
                obtain ⟨z, hz⟩ : ∃ z, s.L h - (S - s.L l) = z := ⟨_, rfl⟩
                rw [hz] at hsub HNL
                have hzb : z ≤ 419430400 := by omega
                have hSx : (S : Int) - (s.L l : Int) = ((S - s.L l : Nat) : Int) := by omega
                clear hz e1 e2 hlx hhx hl2 hh2 c1 c2 HEND f1
                go_wp2_with fail
                have hbW : Below g2 wr ((wr.setCell ⟨g2, l * 2, none⟩ (.int .i64 (s.L l : Nat))).setCell ⟨g2, l * 2 + 1, none⟩ (.int .i64 (h : Nat))) := ((Below.refl _ _).setCell (show g2 ≤ (⟨g2, l * 2, none⟩ : Addr).block from Nat.le_refl _) _).setCell (show g2 ≤ (⟨g2, l * 2 + 1, none⟩ : Addr).block from Nat.le_refl _) _
                have P1 := Lib.hid (HO1.out.keepAt hbW hg12)
                have P2 := Lib.hid (HO2.out.set hl1 (s.L l) h)
                have P3 : Hid (((wr.setCell ⟨g2, l * 2, none⟩ (.int .i64 (s.L l : Nat))).setCell ⟨g2, l * 2 + 1, none⟩ (.int .i64 (h : Nat))).ownsRow g3 4 1 (.slice (some ⟨g3, 0, none⟩) k k) k ((boolsOf k s.D).map Value.bool)) := own_store (own_store HO3.out (show (⟨g2, l * 2, none⟩ : Addr).block < g3 from hg23) _) (show (⟨g2, l * 2 + 1, none⟩ : Addr).block < g3 from hg23) _
                have PB := Lib.hid (HBE.out.trans (hbW.mono (Nat.le_of_lt hg12)))
                clear cl ch fh c2l c2w f2l f2w cd fd hbW HBE HO1 HO2 HO3
                generalize (wr.setCell ⟨g2, l * 2, none⟩ (.int .i64 (s.L l : Nat))).setCell ⟨g2, l * 2 + 1, none⟩ (.int .i64 (h : Nat)) = u at *
                have cl := P1.out.get l hl1
                have ch := P1.out.get h hh1
                have fh := P1.out.frozen h
                have q1 : IntKind.i64.wrap ((S : Int) - (s.L l : Int)) = ((S - s.L l : Nat) : Int) := by rw [IntKind.wrap_i64]; omega
                have q2 : IntKind.i64.wrap ((s.L h : Int) - ((S - s.L l : Nat) : Int)) = (z : Int) := by rw [IntKind.wrap_i64]; omega
                go_region
                have R1 : Hid (OC ((u.setCell ⟨g1, h, none⟩ (.int .i64 (z : Int))).drew) g1 g1 k k (upd s.L h z)) := P1.out.set h z
                have R2 : Hid (OS ((u.setCell ⟨g1, h, none⟩ (.int .i64 (z : Int))).drew) g2 g2 k (upd s.V l (s.L l)) (upd s.T l h)) := (show OS (u.setCell ⟨g1, h, none⟩ (.int .i64 (z : Int))) g2 g2 k _ _ from own_store P2.out (show (⟨g1, h, none⟩ : Addr).block < g2 from hg12) _)
                have R3 : Hid (((u.setCell ⟨g1, h, none⟩ (.int .i64 (z : Int))).drew).ownsRow g3 4 1 (.slice (some ⟨g3, 0, none⟩) k k) k ((boolsOf k s.D).map Value.bool)) := (show (u.setCell ⟨g1, h, none⟩ (.int .i64 (z : Int))).ownsRow g3 4 1 (.slice (some ⟨g3, 0, none⟩) k k) k ((boolsOf k s.D).map Value.bool) from own_store P3.out (show (⟨g1, h, none⟩ : Addr).block < g3 from Nat.lt_trans hg12 hg23) _)
                have RB := Lib.hid ((PB.out.setCell (show g1 ≤ (⟨g1, h, none⟩ : Addr).block from Nat.le_refl _) (.int .i64 (z : Int))).drew)
                clear cl ch fh q1 q2 P1 P2 P3 PB
                generalize (u.setCell ⟨g1, h, none⟩ (.int .i64 (z : Int))).drew = u2 at *
                have cd := ownb_get R3.out l hl1
                have fd := World.ownsRow.frozenAt R3.out l
                go_wp2_with fail
                have hb3 : Below g3 u2 (u2.setCell ⟨g3, l, none⟩ (.bool true)) := (Below.refl _ _).setCell (show g3 ≤ (⟨g3, l, none⟩ : Addr).block from Nat.le_refl _) _
                have hset := ownb_set R3.out l true
                rw [boolsOf_set] at hset
                go_roundg m'
                case measure => omega
                case rel =>
                  refine ⟨nxt k S s, by omega, HRUN.out, RB.out.setCell (show g1 ≤ (⟨g3, l, none⟩ : Addr).block from Nat.le_of_lt (Nat.lt_trans hg12 hg23)) _, ?_, ?_, ?_, fun j => ?_⟩
                  · rw [HNL.out]; exact R1.out.keepAt hb3 (Nat.lt_trans hg12 hg23)
                  · rw [HNV.out, HNT.out]; exact R2.out.keepAt hb3 hg23
                  · rw [show (nxt k S s).D = fun j => if j = l then true else s.D j from funext HND2.out]; exact hset
                  · rw [HNL.out]
                    unfold upd
                    split
                    · exact hzb
                    · exact hL.out j
end Go.Proofs.Ytambhciacmkdoaa
