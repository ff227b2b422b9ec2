/- fen.Draw: what it answers. No condition. -/
import Derived.Test.YtkljkogcahmaaaaOps2
set_option linter.unusedSimpArgs false
set_option linter.unusedVariables false
namespace Go.Proofs.Ytkljkogcahmaaaa
open Go.RowKit
def place (f : Nat → Nat) (n : Nat) : Nat → Nat
  | 0 => 0
  | N + 1 => if n < tot f N then place f n N else N
theorem place_at {f : Nat → Nat} {n : Nat} : ∀ {N : Nat}, n < tot f N → place f n N < N ∧ AtP f n (place f n N)
  | 0, h => by simp [tot] at h
  | N + 1, h => by
    rw [place]
    by_cases e : n < tot f N
    · rw [if_pos e]
      obtain ⟨h1, h2⟩ := place_at e
      exact ⟨by omega, h2⟩
    · rw [if_neg e]
      exact ⟨by omega, by omega, h⟩
def zap (f : Nat → Nat) (k : Nat) : Nat → Nat := fun i => if i = k then 0 else f i
def drw (N : Nat) : (Nat → Nat) → List Int → Option (List Int)
  | _, [] => some []
  | f, x :: xs => if 0 ≤ x ∧ x < (tot f N : Int) then (drw N (zap f (place f x.toNat N)) xs).map (fun r => ((place f x.toNat N : Nat) : Int) :: r) else none
def DrawPost (N : Nat) (zs ns : List Int) (e : Ending) (w' : World) : Prop :=
  match drw N (nd zs) ns with
  | none => e = .returned (.tuple #[.slice none 0 0, .int .i64 3])
  | some os => ∃ u, e = .returned (.tuple #[u, .int .i64 0]) ∧ Rd w' u os
theorem OI.keepAt {w w' : World} {base B g n : Nat} {f : Nat → Nat} (h : OI w base g n f) (hb : Below B w w') (hg : g < B) : OI w' base g n f := by
  refine ⟨h.1, ?_⟩
  rcases h.2 with hn | ⟨g', cap, cur, heq, hbs, hgg, rest⟩
  · exact .inl hn
  · refine .inr ⟨g', cap, cur, heq, hbs, ?_, rest⟩
    cases heq
    rw [hb.block g hg]
    exact hgg
theorem draw_bad (v v2 : Value) (zs : List Int) (w : World) (h : Rd w v zs) (hk : ¬ OkL zs) : Calls Try.prog 11 #[v, v2] w fun e w' => e = .returned (.tuple #[.slice none 0 0, .int .i64 2]) ∧ w' = w := by
  have HW := Lib.hid (wrong_any v zs w h)
  rw [decide_eq_false hk] at HW
  clear h hk
  go_enter Try.func11, Try.ntmps11
  go_wp2_with fail
  refine HW.out.mono ?_
  rintro e w1 ⟨rfl, rfl⟩
  go_wp2_with fail
  go_ret2
  exact ⟨rfl, rfl⟩
set_option maxHeartbeats 1600000 in
theorem draw_ok (v v2 : Value) (zs ns : List Int) (w : World) (h : Rd w v zs) (h2 : Rd w v2 ns) (hk : OkL zs) (hl2 : ns.length ≤ 17592186044415) : Calls Try.prog 11 #[v, v2] w fun e w' => Below w.heap.size w w' ∧ DrawPost zs.length zs ns e w' := by
  obtain ⟨i0, hinfo, hz0, hz1, hz2⟩ := info_parts Try.info3t
  have HW := Lib.hid (wrong_any v zs w h)
  rw [decide_eq_true hk] at HW
  have HBU := Lib.hid (build_ok v zs w h hk)
  have HSU := Lib.hid (fun f hf base g w ho => sum_ok f zs.length zs.length (Nat.le_refl _) hk.1 hf base g w ho)
  have HFI := Lib.hid (fun f n hlt hf base g w ho => find_ok f n zs.length hlt hk.1 hf base g w ho)
  have HAD := Lib.hid (fun f g' k hkk hg hf hg2 base g w ho => add_ok f g' k zs.length hkk hk.1 hg hf hg2 base g w ho)
  obtain ⟨a, cap, rfl, hlc, hcm, hop⟩ := h.open
  obtain ⟨a2, cap2, rfl, hlc2, hcm2, hop2⟩ := h2.open
  have hn := hk.1
  have HK := Lib.hid hk
  have HO1 := Lib.hid hop
  have HO2 := Lib.hid hop2
  clear h hk h2 hop hop2
  go_enter Try.func11, Try.ntmps11
  go_wp2_with fail
  refine HW.out.mono ?_
  rintro e w1 ⟨rfl, rfl⟩
  go_wp2_with fail
  refine HBU.out.mono ?_
  rintro e w2 ⟨g, rfl, hb, ho⟩
  have HB := Lib.hid hb
  have HO := Lib.hid ho
  clear hb ho
  go_wp2_with fail
  have HS2 := Lib.hid HB.out.size
  go_loopw [17, 7] (fun iv ov wr => ∃ (i : Nat) (f : Nat → Nat) (os : List Int), i ≤ ns.length ∧ os.length = i ∧ iv = .int .i64 i ∧ wr.ownsRow w2.heap.size 3 1 ov i (os.map (Value.int .i64)) ∧ Below w1.heap.size w1 wr ∧ OI wr w1.heap.size g (zs.length + 1) (tr f) ∧ w2.heap.size ≤ wr.heap.size ∧ g < w2.heap.size
      ∧ Hid (∀ j, f j = 0 ∨ f j = nd zs j) ∧ Hid (drw zs.length (nd zs) ns = (drw zs.length f (ns.drop i)).map (fun r => os ++ r))) (fun iv _ _ => ns.length - (intOf iv).toNat)
  case atStart => exact ⟨0, nd zs, [], Nat.zero_le _, rfl, rfl, ⟨rfl, .inl ⟨rfl, rfl⟩⟩, HB.out, HO.out, Nat.le_refl _, HO.out.lt.2, fun _ => .inr rfl, by show _ = _; simp⟩
  case round =>
    obtain ⟨i, f, os, hi, hol, rfl, hown, hbel, hoi, hsz, hgl, hf, hd⟩ := hrel
    by_cases hlt : i < ns.length
    · obtain ⟨b2, off2, rfl, hbl2, hc2⟩ := HO2.out i hlt
      have cx := (World.cell?_of_block (hbel.block b2 hbl2)).trans (hc2 i hlt)
      clear hc2
      have hfl : ∀ j, f j ≤ 1073741824 := fun j => by
        rcases hf.out j with h | h
        · omega
        · rw [h]; exact HK.out.le j
      have HSUM := Lib.hid (HSU.out f hfl _ g wr hoi)
      have hdrop : ns.drop i = ns.getD i 0 :: ns.drop (i + 1) := by
        rw [List.drop_eq_getElem_cons hlt, List.getD_eq_getElem?_getD, List.getElem?_eq_getElem hlt]; rfl
      rw [hdrop] at hd
      by_cases hx : 0 ≤ ns.getD i 0 ∧ ns.getD i 0 < (tot f zs.length : Int)
      · obtain ⟨x, hxe⟩ : ∃ x : Nat, ns.getD i 0 = x := ⟨(ns.getD i 0).toNat, by omega⟩
        rw [hxe] at hd cx hx
        obtain ⟨hp1, hp2⟩ := place_at (N := zs.length) (f := f) (n := x) (by omega)
        have HD2 : Hid (drw zs.length (nd zs) ns = (drw zs.length (zap f (place f x zs.length)) (ns.drop (i + 1))).map (fun r => (os ++ [((place f x zs.length : Nat) : Int)]) ++ r)) := by
          show _ = _
          rw [hd.out, drw, if_pos hx, Option.map_map]
          simp only [Int.toNat_natCast]
          congr 1; funext r; simp
        have hcap : x < 429496729600 := by have := tot_cap hfl (show zs.length ≤ 400 by omega); omega
        have c1 : decide ((x : Int) < 0) = false := decide_eq_false (by omega)
        have c2 : decide (tot f zs.length ≤ x) = false := decide_eq_false (by omega)
        have HFN := Lib.hid (HFI.out f x (by omega) hfl _ g wr hoi)
        have HU : Hid (∀ l, AtP f x l → l = place f x zs.length) := fun l h => h.uniq hp2
        have hfk : f (place f x zs.length) = nd zs (place f x zs.length) := by
          rcases hf.out (place f x zs.length) with h | h
          · unfold AtP at hp2; rw [tot] at hp2; omega
          · exact h
        have HZ : Hid (∀ j, zap f (place f x zs.length) j = 0 ∨ zap f (place f x zs.length) j = nd zs j) := fun j => by
          unfold zap
          by_cases e : j = place f x zs.length
          · rw [if_pos e]; exact .inl rfl
          · rw [if_neg e]; exact hf.out j
        have HADD : Hid (∀ (v' : Value) (w' : World), OI w' w1.heap.size g (zs.length + 1) (tr f) → Calls Try.prog 17 #[.slice (some ⟨g, 0, none⟩) (zs.length + 1) (zs.length + 1), .int .i64 (place f x zs.length : Nat), .int .i64 (-(nd zs (place f x zs.length) : Int))] w' fun e w'' => e = .returned (.tuple #[]) ∧ Below w1.heap.size w' w'' ∧ OI w'' w1.heap.size g (zs.length + 1) (tr (zap f (place f x zs.length))) ∧ Keeps g w' w'') := fun _ w' ho' => by
          have := HAD.out f (zap f (place f x zs.length)) (place f x zs.length) hp1 (fun i hi => by unfold zap; rw [if_neg hi]) hfl (fun j => by unfold zap; split; omega; exact hfl j) _ g w' ho'
          rwa [show ((zap f (place f x zs.length) (place f x zs.length) : Nat) : Int) - (f (place f x zs.length) : Int) = -(nd zs (place f x zs.length) : Int) by rw [hfk]; unfold zap; rw [if_pos rfl]; omega] at this
        obtain ⟨b, off, rfl, hbl, hc⟩ := HO1.out (place f x zs.length) hp1
        have HCL : Hid (w1.cell? ⟨b, off + place f x zs.length, none⟩ = some (.int .i64 (nd zs (place f x zs.length) : Nat))) := by
          have := hc (place f x zs.length) hp1
          rwa [HK.out.nd hp1] at this
        have hndb := HK.out.le (place f x zs.length)
        have HBE := Lib.hid hbel
        have HOI := Lib.hid hoi
        have HOW := Lib.hid hown
        clear hc hbel hown hoi hd hxe hdrop hfl hfk hp2
        generalize tot f zs.length = S at *
        generalize nd zs (place f x zs.length) = y at *
        generalize zap f (place f x zs.length) = f2 at *
        generalize place f x zs.length = k at *
        go_wp2_with fail
        refine HSUM.out.mono ?_
        rintro e w3 ⟨rfl, rfl⟩
        go_wp2_with fail
        refine HFN.out.mono ?_
        rintro e w4 ⟨l, rfl, hl1, hl2, rfl⟩
        obtain rfl := HU.out l hl2
        clear hl1 hl2
        go_wp2_with (at_builtin; go_must (refine push rfl _ _ 22 rfl w2.heap.size 3 i0 (.int .i64 0) 8 Try.underlying22 hinfo hz0 hz1 hz2 rfl _ i (os.map (Value.int .i64)) rfl HOW.out (.int .i64 l) _ rfl rfl rfl (by decide) ?hk hsz ?_))
        case hk => omega
        intro v' w' hown2 hgr
        have hb2 : Below w2.heap.size w4 w' := grown_below hgr HOW.out (Below.refl _ _) (Nat.le_refl _) hsz
        have HB1 := Lib.hid (HBE.out.trans (hb2.mono HS2.out))
        have HOI2 := Lib.hid (HOI.out.keepAt hb2 hgl)
        have HOW2 := Lib.hid hown2
        have hsz2 : w2.heap.size ≤ w'.heap.size := Nat.le_trans hsz hb2.size
        have cw := (World.cell?_of_block (HB1.out.block b hbl)).trans HCL.out
        clear hgr hown2 hb2
        go_wp2_with fail
        refine (HADD.out v' w' HOI2.out).mono ?_
        rintro e w5 ⟨rfl, hb5, ho5, hk5⟩
        have HB5 := Lib.hid (HB1.out.trans hb5)
        have HO5 := Lib.hid ho5
        have HK5 := Lib.hid (hk5 _ _ _ _ hgl HOW2.out)
        have hsz5 : w2.heap.size ≤ w5.heap.size := Nat.le_trans hsz2 hb5.size
        clear hb5 ho5 hk5 cw hsz hsz2
        go_wp2_with fail
        go_roundw
        case rel => exact ⟨i + 1, f2, os ++ [(l : Int)], by omega, by simp [hol], by go_num, by simpa using HK5.out, HB5.out, HO5.out, hsz5, hgl, HZ, HD2⟩
        case measure => simp [intOf]; omega
      · have HX : Hid (Below w1.heap.size w1 wr ∧ DrawPost zs.length zs ns (.returned (.tuple #[.slice none 0 0, .int .i64 3])) wr) := by
          refine ⟨hbel, ?_⟩
          unfold DrawPost
          rw [hd.out, drw, if_neg hx]
          rfl
        clear hbel hown hd hdrop hoi
        generalize ns.getD i 0 = x at *
        generalize tot f zs.length = S at *
        by_cases h0 : x < 0
        · have c1 : decide (x < 0) = true := decide_eq_true h0
          clear hx
          go_wp2_with fail
          go_ret2
          exact HX.out
        · have c1 : decide (x < 0) = false := decide_eq_false h0
          have c2 : decide ((S : Int) ≤ x) = true := decide_eq_true (by omega)
          clear hx
          go_wp2_with fail
          refine HSUM.out.mono ?_
          rintro e w3 ⟨rfl, rfl⟩
          go_wp2_with fail
          go_ret2
          exact HX.out
    · obtain rfl : i = ns.length := by omega
      have HX : Hid (Below w1.heap.size w1 wr ∧ DrawPost zs.length zs ns (.returned (.tuple #[u7, .int .i64 0])) wr) := by
        refine ⟨hbel, ?_⟩
        unfold DrawPost
        rw [hd.out, List.drop_length]
        simp only [drw, Option.map_some, List.append_nil]
        exact ⟨_, rfl, Rd.own hown⟩
      clear hbel hown hd
      go_wp2_with fail
      go_ret2
      exact HX.out
end Go.Proofs.Ytkljkogcahmaaaa
