/- cycles.Of: the rounds of an order. No condition. -/
import Derived.Test.YthaiopgmncnekaaDoorCycCycL
import Derived.Test.YthaiopgmncnekaaDoorCycGrow
import Derived.Test.YthaiopgmncnekaaDoorCycPush
set_option linter.unusedSimpArgs false
set_option linter.unusedVariables false
set_option maxRecDepth 20000
namespace Go.Proofs.YthaiopgmncnekaaDoor.Cyc
open Go.RowKit
theorem OkP.pm {zs : List Int} (h : OkP zs) : Pm (YthaiopgmncnekaaDoor.Cyc.nd zs) zs.length := ⟨fun x hx => h.lt hx, fun x y hx hy e => h.inj hx hy e⟩
def ints (r : List Nat) : List Int := r.map fun (x : Nat) => (x : Int)
def lenV : Value → Nat
  | .slice _ n _ => n
  | _ => 0
theorem own_lenV {w : World} {base : Nat} {e : TypeId} {size : Nat} {v : Value} {n : Nat} {xs : List Value} (h : w.ownsRow base e size v n xs) : lenV v = n := by
  rcases h.2 with ⟨rfl, h0⟩ | ⟨g, cap, cur, rfl, _⟩
  · exact h0.symm
  · rfl
def rows (R : List (List Nat)) : List (List Int) := R.map ints
theorem rows_len (R : List (List Nat)) : (rows R).length = R.length := by simp [rows]
theorem rows_append (R : List (List Nat)) (r : List Nat) : rows (R ++ [r]) = rows R ++ [ints r] := by simp [rows]
theorem cyc_len_le (f : Nat → Nat) (n k : Nat) : (cyc f n k).length ≤ k := by
  unfold cyc lows; rw [List.length_map]
  have := List.length_filter_le (isL f n) (List.range k)
  simpa using this
/-- Nothing of the call's own but block g has turned. -/
def Kept (g : Nat) (w w' : World) : Prop := w.heap.size ≤ w'.heap.size ∧ ∀ b, g + 1 ≤ b → b < w.heap.size → w'.heap[b]? = w.heap[b]?
theorem Kept.refl (g : Nat) (w : World) : Kept g w w := ⟨Nat.le_refl _, fun _ _ _ => rfl⟩
theorem Kept.set {g : Nat} {w w' : World} (h : Kept g w w') (j : Nat) (u : Value) : Kept g w (w'.setCell ⟨g, j, none⟩ u) :=
  ⟨by simpa [World.setCell] using h.1, fun b h1 h2 => by rw [Below.heap_setCell _ _ _ _ (by show b ≠ g; omega)]; exact h.2 b h1 h2⟩
theorem Kept.below {g B : Nat} {w w' w2 : World} (h : Kept g w w') (hb : Below B w' w2) (hB : w.heap.size ≤ B) : Kept g w w2 :=
  ⟨Nat.le_trans h.1 hb.size, fun b h1 h2 => by rw [hb.block b (by omega)]; exact h.2 b h1 h2⟩
theorem own_kept {w w' : World} {base : Nat} {e : TypeId} {size : Nat} {v : Value} {n : Nat} {xs : List Value} (h : w.ownsRow base e size v n xs) {g : Nat} (hk : Kept g w w') (hg : g + 1 ≤ base) : w'.ownsRow base e size v n xs := by
  refine ⟨h.1, ?_⟩
  rcases h.2 with hn | ⟨b, cap, cur, rfl, hbs, hgg, rest⟩
  · exact .inl hn
  · refine .inr ⟨b, cap, cur, rfl, hbs, ?_, rest⟩
    rw [hk.2 b (by omega) (Array.getElem?_eq_some_iff.1 hgg).1]
    exact hgg
theorem OM.keep {w w' : World} {base : Nat} {mv : Value} {zss : List (List Int)} (h : OM w base mv zss) {g : Nat} (hk : Kept g w w') (hg : g + 1 ≤ base) : OM w' base mv zss := by
  obtain ⟨V, h1, h2, h3⟩ := h
  exact ⟨V, own_kept h1 hk hg, h2, fun j hj => (h3 j hj).kept hk.1 fun b hb1 hb2 _ => hk.2 b (by omega) hb1⟩
theorem OM.lower {w : World} {base base' : Nat} {mv : Value} {zss : List (List Int)} (h : OM w base mv zss) (hb : base' ≤ base) : OM w base' mv zss := by
  obtain ⟨V, h1, h2, h3⟩ := h
  exact ⟨V, own_base h1 hb, h2, fun j hj => (h3 j hj).lower hb⟩
theorem own_keepAt {w w' : World} {base B g n cap : Nat} {e : TypeId} {xs : List Value} (h : w.ownsRow base e 1 (.slice (some ⟨g, 0, none⟩) n cap) n xs) (hb : Below B w w') (hg : g < B) : w'.ownsRow base e 1 (.slice (some ⟨g, 0, none⟩) n cap) n xs := by
  refine ⟨h.1, ?_⟩
  rcases h.2 with hn | ⟨g', cap, cur, heq, hbs, hgg, rest⟩
  · exact .inl hn
  · refine .inr ⟨g', cap, cur, heq, hbs, ?_, rest⟩
    cases heq
    rw [hb.block g hg]
    exact hgg
theorem of_bad (v : Value) (zs : List Int) (w : World) (h : Rd w v zs) (hno : ¬ OkP zs) :
    Calls Tryd.prog 15 #[v] w fun e w' => Below w.heap.size w w' ∧ e = .returned (.tuple #[.slice none 0 0, .int .i64 1]) := by
  have HR := Lib.hid (fun w h => right_any v zs w h)
  rw [decide_eq_false hno] at HR
  have H1 := Lib.hid h
  clear h hno
  go_enter Tryd.func15, Tryd.ntmps15
  go_wp2_with fail
  refine (HR.out _ H1.out).mono ?_
  rintro e w1 ⟨rfl, hb1⟩
  have HB1 := Lib.hid hb1
  clear hb1
  go_wp2_with fail
  go_ret2
  exact ⟨HB1.out, rfl⟩
/-- What the marks say: y was had in an earlier round, or is one of the first m of this one. -/
def Mk (f : Nat → Nat) (n k m : Nat) (c : List Bool) : Prop := c.length = n ∧ ∀ y, y < n → (c.getD y false = true ↔ hd f n k y ∨ ∃ j, j < m ∧ it f j k = y)
theorem Mk.step {f : Nat → Nat} {n k m : Nat} {c : List Bool} (h : Mk f n k m c) (hx : it f m k < n) : Mk f n k (m + 1) (c.set (it f m k) true) := by
  refine ⟨by simpa using h.1, fun y hy => ?_⟩
  by_cases e : it f m k = y
  · subst e
    rw [List.getD_eq_getElem?_getD, List.getElem?_set_self (by rw [h.1]; exact hx)]
    simp only [Option.getD_some, true_iff]
    exact .inr ⟨m, by omega, rfl⟩
  · rw [List.getD_eq_getElem?_getD, List.getElem?_set_ne e, ← List.getD_eq_getElem?_getD, h.2 y hy]
    constructor
    · rintro (h1 | ⟨j, h1, h2⟩)
      · exact .inl h1
      · exact .inr ⟨j, by omega, h2⟩
    · rintro (h1 | ⟨j, h1, h2⟩)
      · exact .inl h1
      · by_cases e2 : j = m
        · subst e2; exact absurd h2 e
        · exact .inr ⟨j, by omega, h2⟩
theorem Mk.next {f : Nat → Nat} {n k : Nat} {c : List Bool} (hp : Pm f n) (hk : k < n) (h : Mk f n k (per f n k) c) : Mk f n (k + 1) 0 c := by
  refine ⟨h.1, fun y hy => ?_⟩
  rw [h.2 y hy, hd_succ]
  constructor
  · rintro (h1 | ⟨j, h1, h2⟩)
    · exact .inl (.inl h1)
    · exact .inl (.inr ((hp.mem_orb hk y).2 ⟨j, h2⟩))
  · rintro ((h1 | h1) | ⟨j, h1, h2⟩)
    · exact .inl h1
    · obtain ⟨j, hj, rfl⟩ := List.mem_map.1 h1
      exact .inr ⟨j, List.mem_range.1 hj, rfl⟩
    · omega
theorem Mk.skip {f : Nat → Nat} {n k : Nat} {c : List Bool} (hp : Pm f n) (hk : k < n) (h : Mk f n k 0 c) (hh : hd f n k k) : Mk f n (k + 1) 0 c := by
  refine ⟨h.1, fun y hy => ?_⟩
  rw [h.2 y hy, hd_succ]
  constructor
  · rintro (h1 | ⟨j, h1, h2⟩)
    · exact .inl (.inl h1)
    · omega
  · rintro ((h1 | h1) | ⟨j, h1, h2⟩)
    · exact .inl h1
    · exact .inl (hp.hd_round (by omega) hh h1)
    · omega
/-- Not yet had: the m-th of a round that is new, m below its length. -/
theorem Mk.fresh {f : Nat → Nat} {n k m : Nat} {c : List Bool} (hp : Pm f n) (hk : k < n) (h : Mk f n k m c) (hno : ¬ hd f n k k) (hm : m < per f n k) : c.getD (it f m k) false = false := by
  have hx := hp.lt m k hk
  rw [Bool.eq_false_iff]
  intro e
  rcases (h.2 _ hx).1 e with h1 | ⟨j, h1, h2⟩
  · exact hno (hp.hd_round (by omega) h1 (hp.orb_symm hk ((hp.mem_orb hk _).2 ⟨m, rfl⟩)))
  · have e2 : it f m k = it f j (it f (m - j) k) := by rw [← it_add]; congr 1; omega
    exact (hp.per hk).2.2.2 (m - j) (by omega) (by omega) (hp.inj j _ _ hk (hp.lt _ _ hk) (h2.trans e2)).symm
theorem Mk.had {f : Nat → Nat} {n k : Nat} {c : List Bool} (hp : Pm f n) (hk : k < n) (h : Mk f n k (per f n k) c) : c.getD (it f (per f n k) k) false = true := by
  rw [(hp.per hk).1]
  exact (h.2 k hk).2 (.inr ⟨0, (hp.per hk).2.1, rfl⟩)
theorem Mk.zero (f : Nat → Nat) (n : Nat) : Mk f n 0 0 (List.replicate n false) := by
  refine ⟨by simp, fun y hy => ?_⟩
  simp [List.getD_eq_getElem?_getD, List.getElem?_replicate, hy, hd]
/-- The first m of a round. -/
def firsts (f : Nat → Nat) (k m : Nat) : List Nat := (List.range m).map fun j => it f j k
theorem firsts_len (f : Nat → Nat) (k m : Nat) : (firsts f k m).length = m := by simp [firsts]
theorem firsts_succ (f : Nat → Nat) (k m : Nat) : ints (firsts f k (m + 1)) = ints (firsts f k m) ++ [(it f m k : Int)] := by simp only [ints, firsts, List.range_succ, List.map_append, List.map_cons, List.map_nil]
theorem firsts_orb (f : Nat → Nat) (n k : Nat) : firsts f k (per f n k) = orb f n k := rfl
set_option maxRecDepth 20000 in
set_option maxHeartbeats 3200000 in
theorem of_ok (v : Value) (zs : List Int) (w : World) (h : Rd w v zs) (k1 : OkP zs) :
    Calls Tryd.prog 15 #[v] w fun e w' => Below w.heap.size w w' ∧ ∃ u, e = .returned (.tuple #[u, .int .i64 0]) ∧ OM w' w.heap.size u (rows (cyc (nd zs) zs.length zs.length)) := by
  obtain ⟨i0, hinfo, hz0, hz1, hz2⟩ := info_parts Tryd.info4t
  obtain ⟨i3, hinfo3, hz03, hz13, hz23⟩ := info_parts Tryd.info3t
  have HR := Lib.hid (fun w h => right_any v zs w h)
  rw [decide_eq_true k1] at HR
  have H1 := Lib.hid h
  have hn := k1.1
  have HP := Lib.hid k1.pm
  obtain ⟨a, cap, rfl, hlc, hcm, hop⟩ := h.open
  have HOP := Lib.hid hop
  have HND : Hid (∀ k, k < zs.length → zs.getD k 0 = (nd zs k : Int) ∧ nd zs k < zs.length) := fun k hk => ⟨k1.nd hk, k1.lt hk⟩
  generalize nd zs = f at *
  generalize zs.length = n at *
  clear h hop k1
  go_enter Tryd.func15, Tryd.ntmps15
  go_wp2_with fail
  refine (HR.out _ H1.out).mono ?_
  rintro e w2 ⟨rfl, hb2⟩
  have HB2 := Lib.hid hb2
  have b2 : i0.bytes * n ≤ 281474976710656 := by rw [hz2]; omega
  have b3 : n ≤ maxLen := by unfold maxLen; omega
  clear hb2
  go_wp2_with (refine wpList_make_full _ rfl _ _ 57 rfl w2.heap.size 4 i0 (.bool false) 1 Tryd.underlying57 hinfo hz0 hz1 .i64 .i64 _ _ n rfl rfl ?hL ?hC b2 b3 (Nat.le_refl _) ?_)
  case hL => simp
  case hC => simp
  intro w3 hown hgr
  have HB3 := Lib.hid (HB2.out.trans (((Below.refl w2.heap.size w2).grown hgr (Nat.le_refl _) (fun k hk => by cases hk)).mono HB2.out.size))
  rw [falses_eq] at hown
  have HO := Lib.hid hown
  have hgl := HB2.out.size
  have hgw := hown.lt _ rfl
  obtain ⟨g, hg⟩ : ∃ g, w2.heap.size = g := ⟨_, rfl⟩
  rw [hg] at HO hgl hgw ⊢
  clear hown hgr b2 b3 hg
  go_wp2_with fail
  go_loopw [17, 5, 6, 7, 8] (fun iv ov _ _ _ wr => ∃ (i : Nat) (c : List Bool), i ≤ n ∧ iv = .int .i64 i ∧ Below w.heap.size w wr ∧ g < wr.heap.size ∧ wr.ownsRow g 4 1 (.slice (some ⟨g, 0, none⟩) n n) n (c.map Value.bool) ∧ OM wr (g + 1) ov (rows (cyc f n i)) ∧ Hid (Mk f n i 0 c)) (fun iv _ _ _ _ _ => n - (intOf iv).toNat)
  case atStart => exact ⟨0, _, Nat.zero_le _, rfl, HB3.out, hgw.2, HO.out, OM.nil _ _, Mk.zero f n⟩
  case round =>
    clear HB3 HO hgw
    obtain ⟨i, c, hi, rfl, hbel, hgw, ho, hom, hmk⟩ := hrel
    by_cases hlt : i < n
    · by_cases hh : hd f n i i
      · have cc := ownb_get ho i hlt
        rw [(hmk.out.2 i hlt).2 (.inl hh)] at cc
        have HMK := Lib.hid (hmk.out.skip HP.out hlt hh)
        have e2 : cyc f n (i + 1) = cyc f n i := cyc_succ_not fun h => (HP.out.low hlt).1 h hh
        have HOM := Lib.hid hom
        rw [← e2] at HOM
        have HO := Lib.hid ho
        have HBE := Lib.hid hbel
        clear hmk hh e2 hom ho hbel
        go_wp2_with fail
        refine wp_loop_rounds 1 ?_
        rw [rounds_succ]
        go_wp2_with fail
        exact ⟨⟨i + 1, c, by omega, by go_num, HBE.out, hgw, HO.out, HOM.out, HMK⟩, by simp [intOf]; omega⟩
      · have HNO := Lib.hid hh
        have HOM := Lib.hid hom
        have HO := Lib.hid ho
        have HBE := Lib.hid hbel
        have HLOW := Lib.hid (cyc_succ_low ((HP.out.low hlt).2 hh))
        have hpn := (HP.out.per hlt).2.2.1
        have hp0 := (HP.out.per hlt).2.1
        obtain ⟨L, hL⟩ : ∃ L, per f n i = L := ⟨_, rfl⟩
        rw [hL] at hpn hp0
        have HL := Lib.hid hL
        have hwos := hbel.size
        clear hh hom ho hbel hL
        obtain ⟨wo, hwo⟩ : ∃ wo, wo = wr := ⟨_, rfl⟩
        subst hwo
        go_wp2_with fail
        go_loopw [8, 7] (fun xv lv wr => ∃ (m x : Nat) (c : List Bool), m ≤ L ∧ Hid (it f m i = x) ∧ x < n ∧ xv = .int .i64 x ∧ Below w.heap.size w wr ∧ Kept g wo wr ∧ wr.ownsRow g 4 1 (.slice (some ⟨g, 0, none⟩) n n) n (c.map Value.bool) ∧ wr.ownsRow wo.heap.size 3 1 lv m ((ints (firsts f i m)).map (Value.int .i64)) ∧ Hid (Mk f n i m c)) (fun _ lv _ => L - lenV lv)
        case atStart => exact ⟨0, i, c, Nat.zero_le _, rfl, hlt, rfl, HBE.out, Kept.refl _ _, HO.out, World.ownsRow_nil _ _ _ _, hmk⟩
        case round =>
          clear HBE HO hmk
          obtain ⟨m, x, c, hm, hx, hxn, rfl, hbel, hkept, ho, hl, hmk⟩ := hrel
          have cc := ownb_get ho x hxn
          by_cases hml : m < L
          · have e1 := hmk.out.fresh HP.out hlt HNO.out (by rw [HL.out]; exact hml)
            rw [hx.out] at e1
            rw [e1] at cc
            clear e1
            have hlv := own_lenV hl
            obtain ⟨hx1, hx2⟩ := HND.out x hxn
            obtain ⟨b, off, rfl, hb, hc⟩ := HOP.out x hxn
            have cx := (World.cell?_of_block (hbel.block b hb)).trans (hc x hxn)
            rw [hx1] at cx
            have cf := World.ownsRow.frozenAt ho x
            have HST := Lib.hid (ownb_set ho x true)
            have HMK := Lib.hid (hmk.out.step (by rw [hx.out]; exact hxn))
            rw [hx.out] at HMK
            have HBS := Lib.hid (hbel.setCell (show w.heap.size ≤ (⟨g, x, none⟩ : Addr).block from hgl) (.bool true))
            have HKS := Lib.hid (hkept.set x (.bool true))
            have HLS := Lib.hid (own_store hl (a := ⟨g, x, none⟩) hgw (.bool true))
            have HIX : Hid (it f (m + 1) i = f x) := by show _ = _; rw [it_succ, hx.out]
            have HFS := Lib.hid (firsts_succ f i m)
            rw [hx.out] at HFS
            have hkept0 := hkept.1
            have HC := Lib.hid hc
            clear hx1 hc hbel hkept ho hl hmk
            go_wp2_with (at_builtin; go_must (refine push2 rfl _ _ rfl wo.heap.size _ m (ints (firsts f i m)) rfl HLS.out (x : Int) wr.heap.size rfl (by simp [World.setCell]) (by omega) ?hbase ?_))
            case hbase => simpa [World.setCell] using hkept0
            intro lv' w5 hown5 hgr5 hwh5
            have hb5 : Below wo.heap.size (wr.setCell ⟨g, x, none⟩ (.bool true)) w5 := grown_below hgr5 HLS.out (Below.refl _ _) (Nat.le_refl _) (by simpa [World.setCell] using hkept0)
            replace hown5 : w5.ownsRow wo.heap.size 3 1 lv' (m + 1) ((ints (firsts f i (m + 1))).map (Value.int .i64)) := by rw [HFS.out, List.map_append]; exact hown5
            have hbw := HBS.out.trans (hb5.mono hwos)
            have HBW := Lib.hid hbw
            have HKW := Lib.hid (HKS.out.below hb5 (Nat.le_refl _))
            have HOW := Lib.hid (own_keepAt HST.out hb5 hgw)
            have HLW := Lib.hid hown5
            have cx5 := (World.cell?_of_block (hbw.block b hb)).trans (HC.out x hxn)
            rw [(HND.out x hxn).1] at cx5
            clear hown5 hgr5 hwh5 hb5 hbw cx cc cf
            go_wp2_with fail
            exact ⟨⟨m + 1, f x, c.set x true, by omega, HIX, hx2, rfl, HBW.out, HKW.out, HOW.out, HLW.out, HMK⟩, by rw [own_lenV HLW.out, hlv]; omega⟩
          · obtain rfl : m = L := by omega
            have e1 := hmk.out
            rw [← HL.out] at e1
            have e2 := e1.had HP.out hlt
            rw [HL.out, hx.out] at e2
            rw [e2] at cc
            have HMK := Lib.hid (e1.next HP.out hlt)
            have HOMK := Lib.hid (HOM.out.keep hkept (Nat.le_refl _))
            have hlv := own_lenV hl
            have HRW := Lib.hid ((RowAt.own hl).lower (show g + 1 ≤ wo.heap.size from hgw))
            have HCN := Lib.hid (show rows (cyc f n (i + 1)) = rows (cyc f n i) ++ [ints (firsts f i m)] by rw [HLOW.out, rows_append, ← HL.out, firsts_orb])
            have HO := Lib.hid ho
            have HBE := Lib.hid hbel
            have hgw5 := hkept.1
            have hcl := cyc_len_le f n i
            obtain ⟨la, lc, rfl⟩ : ∃ la lc, u7 = .slice la m lc := by
              obtain ⟨la, lc, e, _⟩ := HRW.out
              exact ⟨la, lc, by rw [e]; simp [ints, firsts]⟩
            clear e1 e2 hmk hkept ho hbel hl hlv
            go_wp2_with (at_builtin; go_must (refine push_row rfl _ _ rfl (g + 1) _ (rows (cyc f n i)) rfl HOMK.out _ _ HRW.out _ rfl rfl (by rw [rows_len]; omega) (by omega) ?_))
            intro ov' w5 hown5 hb5
            rw [← HCN.out] at hown5
            have HOM5 := Lib.hid hown5
            have HB5 := Lib.hid (HBE.out.trans (hb5.mono (by omega)))
            have HO5 := Lib.hid (own_keepAt HO.out hb5 (Nat.lt_succ_self g))
            have hs5 := hb5.size
            clear hown5 hb5
            go_wp2_with fail
            exact ⟨⟨i + 1, c, by omega, by go_num, HB5.out, by omega, HO5.out, HOM5.out, HMK⟩, by simp [intOf]; omega⟩
    · obtain rfl : i = n := by omega
      have HBE := Lib.hid hbel
      have HOM := Lib.hid (show OM wr w.heap.size u5 (rows (cyc f i i)) from hom.lower (by omega))
      clear hbel ho hom hmk
      go_wp2_with fail
      go_ret2
      exact ⟨HBE.out, _, rfl, HOM.out⟩
end Go.Proofs.YthaiopgmncnekaaDoor.Cyc
