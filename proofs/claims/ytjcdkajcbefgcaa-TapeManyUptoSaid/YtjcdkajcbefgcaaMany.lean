/- tape.Many: what it answers. No condition but that its answer fits. -/
import Derived.Test.YtjcdkajcbefgcaaBelow
import Derived.Test.YtjcdkajcbefgcaaConcatI
set_option linter.unusedSimpArgs false
set_option linter.unusedVariables false
namespace Go.Proofs.Ytjcdkajcbefgcaa
open Go.RowKit
def NilOk (v : Value) : Prop := ∀ n c, v = .slice none n c → n = 0 ∧ c = 0
theorem nilOk_own {w : World} {base : Nat} {e : TypeId} {v : Value} {n : Nat} {xs : List Value} (h : w.ownsRow base e 1 v n xs) : NilOk v := by
  intro m c he
  rcases h.2 with ⟨rfl, _⟩ | ⟨g, cap, cur, rfl, _⟩
  · cases he; exact ⟨rfl, rfl⟩
  · cases he
def ManyPost (o : Option (List Int × Nat)) (e : Ending) (w w' : World) : Prop :=
  Below w.heap.size w w' ∧ match o with
  | none => ∃ c : Int, c ≠ 0 ∧ -9223372036854775808 ≤ c ∧ c ≤ 9223372036854775807 ∧ e = .returned (.tuple #[.slice none 0 0, .int .i64 0, .int .i64 c])
  | some q => ∃ v, (Rd w' v q.1 ∧ NilOk v) ∧ e = .returned (.tuple #[v, .int .i64 q.2, .int .i64 0])
set_option maxHeartbeats 1600000 in
theorem many_any (v v2 : Value) (z : List Bool) (ns : List Int) (w : World) (h : RdB w v z) (h2 : Rd w v2 ns) (hnl : ns.length * 8 ≤ 140737488351232) :
    Calls Try.prog 12 #[v, v2] w fun e w' => ManyPost (many ns z) e w w' := by
  obtain ⟨i0, hi, hz0, hz1, hz2⟩ := info_parts Try.info3t
  have HZ := Lib.hid h
  obtain ⟨a, cap, rfl, hlc, hcm, -⟩ := h.open
  obtain ⟨a2, cap2, rfl, hlc2, hcm2, hop2⟩ := h2.open
  have HO2 := Lib.hid hop2
  clear h h2 hop2
  go_enter Try.func12, Try.ntmps12
  go_wp2_with fail
  go_loopw [7, 8, 16] (fun ov uv iv wr => ∃ (u i : Nat) (os : List Int), uv = .int .i64 u ∧ iv = .int .i64 i ∧ u ≤ z.length ∧ i ≤ ns.length ∧
    wr.ownsRow w.heap.size 3 1 ov i (os.map (Value.int .i64)) ∧ Below w.heap.size w wr ∧ Hid (many ns z = (many (ns.drop i) (z.drop u)).map fun q => (os ++ q.1, u + q.2))) (fun _ _ iv _ => ns.length - (intOf iv).toNat)
  case atStart => exact ⟨0, 0, [], rfl, rfl, Nat.zero_le _, Nat.zero_le _, ⟨rfl, .inl ⟨rfl, rfl⟩⟩, Below.refl _ _, by show _ = _; simp⟩
  case round =>
    obtain ⟨u, i, os, rfl, rfl, hu, hi', hown, hbel, hm⟩ := hrel
    by_cases hlt : i < ns.length
    · obtain ⟨b, off, rfl, hbl, hc⟩ := HO2.out i hlt
      have c1 := (World.cell?_of_block (hbel.block b hbl)).trans (hc i hlt)
      have hdr : ns.drop i = ns.getD i 0 :: ns.drop (i + 1) := by
        rw [List.drop_eq_getElem_cons hlt]; simp [List.getD_eq_getElem?_getD, List.getElem?_eq_getElem hlt]
      clear hc
      generalize ns.getD i 0 = n at *
      rw [hdr, many] at hm
      have HBIN := Lib.hid (fun q hq => belZ_in (n := n) (t := z.drop u) (q := q) hq)
      have HBEL := Lib.hid (fun v hr => below_any v (z.drop u) n wr hr)
      have HDR := Lib.hid ((HZ.out.below hbel (Nat.le_refl _)).drop hu)
      have HOWN := Lib.hid hown
      clear hown hdr
      generalize belZ n (z.drop u) = o at *
      cases o with
      | none =>
        have HM : Hid (many ns z = none) := hm.out
        clear hm
        by_cases hcu : cap = u
        · subst hcu
          have hb := Lib.hid (HBEL.out _ (HDR.out.2 rfl))
          clear HBEL HDR
          go_wp2_with fail
          refine hb.out.mono ?_
          rintro e w1 ⟨⟨c, hc0, hc1, hc2, rfl⟩, rfl⟩
          have hc3 : (c != 0) = true := by rw [bne_iff_ne]; exact hc0
          go_wp2_with fail
          go_ret3
          exact ⟨hbel, by rw [HM.out]; exact ⟨c, hc0, hc1, hc2, rfl⟩⟩
        · have hb := Lib.hid (HBEL.out _ (HDR.out.1 hcu))
          clear HBEL HDR
          go_wp2_with fail
          refine hb.out.mono ?_
          rintro e w1 ⟨⟨c, hc0, hc1, hc2, rfl⟩, rfl⟩
          have hc3 : (c != 0) = true := by rw [bne_iff_ne]; exact hc0
          go_wp2_with fail
          go_ret3
          exact ⟨hbel, by rw [HM.out]; exact ⟨c, hc0, hc1, hc2, rfl⟩⟩
      | some q =>
        obtain ⟨q1, q2⟩ := q
        obtain ⟨p1, p2, p3, p4, -⟩ := HBIN.out _ rfl
        rw [List.length_drop] at p4
        simp only at p3 p4
        have HM : Hid (many ns z = (many (ns.drop (i + 1)) (z.drop (u + q2))).map fun r => ((os ++ [(q1 : Int)]) ++ r.1, (u + q2) + r.2)) := by
          show _ = _
          rw [hm.out, Option.bind_some, Option.map_map, List.drop_drop]
          congr 1; funext r; simp [Nat.add_assoc]
        have hk : i + 1 ≤ 17592186044416 := by omega
        have HK := Lib.hid hk
        clear hm HBIN hk
        by_cases hcu : cap = u
        · subst hcu
          have hb := Lib.hid (HBEL.out _ (HDR.out.2 rfl))
          clear HBEL HDR
          go_wp2_with fail
          refine hb.out.mono ?_
          rintro e w1 ⟨rfl, rfl⟩
          have hbs := hbel.size
          go_wp2_with (at_builtin; go_must (refine push rfl _ _ 23 rfl w.heap.size 3 i0 (.int .i64 0) 8 Try.underlying23 hi hz0 hz1 hz2 rfl _ i (os.map (Value.int .i64)) rfl HOWN.out (.int .i64 q1) _ rfl rfl rfl (by decide) HK.out hbs ?_))
          intro v' w' hown hgr
          have hb2 := grown_below hgr HOWN.out hbel (Nat.le_refl _) hbs
          go_wp2_with fail
          go_roundw
          case rel => exact ⟨cap + q2, i + 1, os ++ [(q1 : Int)], by go_num, by go_num, by omega, by omega, by simpa using hown, hb2, HM.out⟩
          case measure => simp [intOf]; omega
        · have hb := Lib.hid (HBEL.out _ (HDR.out.1 hcu))
          clear HBEL HDR
          go_wp2_with fail
          refine hb.out.mono ?_
          rintro e w1 ⟨rfl, rfl⟩
          have hbs := hbel.size
          go_wp2_with (at_builtin; go_must (refine push rfl _ _ 23 rfl w.heap.size 3 i0 (.int .i64 0) 8 Try.underlying23 hi hz0 hz1 hz2 rfl _ i (os.map (Value.int .i64)) rfl HOWN.out (.int .i64 q1) _ rfl rfl rfl (by decide) HK.out hbs ?_))
          intro v' w' hown hgr
          have hb2 := grown_below hgr HOWN.out hbel (Nat.le_refl _) hbs
          go_wp2_with fail
          go_roundw
          case rel => exact ⟨u + q2, i + 1, os ++ [(q1 : Int)], by go_num, by go_num, by omega, by omega, by simpa using hown, hb2, HM.out⟩
          case measure => simp [intOf]; omega
    · obtain rfl : i = ns.length := by omega
      have HM : Hid (many ns z = some (os, u)) := by
        show _ = _
        rw [hm.out, List.drop_length]; simp [many]
      have HR := Lib.hid (And.intro (Rd.own hown) (nilOk_own hown))
      clear hm hown
      go_wp2_with fail
      go_ret3
      exact ⟨hbel, by rw [HM.out]; exact ⟨_, HR.out, rfl⟩⟩
end Go.Proofs.Ytjcdkajcbefgcaa
