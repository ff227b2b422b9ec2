/- bench.Tell: what it answers. Condition: the listed variables as they are laid. -/
import Derived.Test.YthaiopgmncnekaaGreatDoorParse
import Derived.Lib.ItoaLen
set_option linter.unusedSimpArgs false
set_option linter.unusedVariables false
set_option maxRecDepth 20000
namespace Go.Proofs.YthaiopgmncnekaaGreatDoor
open Go.RowKit
def stp (r : Int) (s : Int × List Int) (p : Nat × Nat) : Int × List Int := if addE s.1 p.2 = 0 then (s.1 + 1, addL r s.2 p.1 p.2) else s
def sayL (s : Int × List Int) (p : Nat × Nat) : List UInt8 := if addE s.1 p.2 = 0 then [111, 107] else [101, 114, 114, 111, 114, 32] ++ Lib.itoa (addE s.1 p.2)
def runT (r : Int) (s : Int × List Int) : List (Nat × Nat) → Int × List Int
  | [] => s
  | p :: l => runT r (stp r s p) l
def sayT (r : Int) (s : Int × List Int) : List (Nat × Nat) → List (List UInt8)
  | [] => []
  | p :: l => sayL s p :: sayT r (stp r s p) l
theorem sayT_len (r : Int) : ∀ (s : Int × List Int) (l : List (Nat × Nat)), (sayT r s l).length = l.length
  | _, [] => rfl
  | s, p :: l => by show (sayT _ _ _).length + 1 = _; rw [sayT_len]; rfl
theorem sayT_app (r : Int) : ∀ (s : Int × List Int) (l m : List (Nat × Nat)), ∃ q, sayT r s (l ++ m) = sayT r s l ++ q
  | s, [], m => ⟨_, rfl⟩
  | s, p :: l, m => by
    obtain ⟨q, hq⟩ := sayT_app r (stp r s p) l m
    exact ⟨q, by show sayL s p :: sayT _ _ (l ++ m) = _; rw [hq]; rfl⟩
def spell (zs : List Int) : List UInt8 := (zs.map fun x => (32 : UInt8) :: Lib.itoa x).flatten
def keptT (s : Int × List Int) : List UInt8 := [107, 101, 112, 116, 32] ++ Lib.itoa s.1 ++ spell s.2
def told (r : Int) (l : List (Nat × Nat)) : List (List UInt8) := sayT r (0, []) l ++ [keptT (runT r (0, []) l)]
theorem told_len (r : Int) (l : List (Nat × Nat)) : (told r l).length = l.length + 1 := by unfold told; rw [List.length_append, sayT_len]; rfl
/-- What is kept is in order. -/
def OkS (r : Int) (s : Int × List Int) : Prop := RightP r s.1 s.2.length ∧ ∀ z ∈ s.2, 0 ≤ z ∧ z ≤ 1099511627776
theorem addE_zero {c d : Int} (h : addE c d = 0) : c ≠ 1099511627776 ∧ 0 ≤ d ∧ d ≤ c := by
  unfold addE at h
  split at h
  · cases h
  · split at h
    · cases h
    · rename_i h1 h2
      exact ⟨h1, by omega, by omega⟩
theorem OkS.step {r : Int} {s : Int × List Int} (h : OkS r s) {p : Nat × Nat} (hp : p.1 ≤ big) : OkS r (stp r s p) := by
  unfold stp
  split
  · rename_i he
    obtain ⟨⟨h1, h2, h3, h4, h5⟩, h6⟩ := h
    obtain ⟨e1, e2, e3⟩ := addE_zero he
    have hx : 0 ≤ (p.1 : Int) ∧ (p.1 : Int) ≤ 1099511627776 := by unfold big at hp; omega
    unfold addL
    refine ⟨?_, ?_⟩
    · show RightP r (s.1 + 1) _
      split
      · rw [List.length_append]
        refine ⟨h1, h2, by omega, by omega, ?_⟩
        show (((s.2.length + 1 : Nat)) : Int) = _
        omega
      · split
        · rw [List.length_set]; exact ⟨h1, h2, by omega, by omega, by omega⟩
        · refine ⟨h1, h2, by omega, by omega, ?_⟩
          show ((s.2.length : Nat) : Int) = _
          omega
    · intro z hz
      dsimp only at hz
      split at hz
      · rcases List.mem_append.1 hz with hz | hz
        · exact h6 z hz
        · simp at hz; subst hz; exact hx
      · split at hz
        · rcases List.mem_or_eq_of_mem_set hz with hz | rfl
          · exact h6 z hz
          · exact hx
        · exact h6 z hz
  · exact h
theorem addE_bd (c d : Int) : 0 ≤ addE c d ∧ addE c d ≤ 4 := by unfold addE; split <;> (try split) <;> omega
theorem OkS.new {r : Int} (h : 1 ≤ r ∧ r ≤ 400) : OkS r (0, []) := ⟨⟨h.1, h.2, by decide, by decide, by show (0 : Int) = _; omega⟩, fun z hz => by cases hz⟩
/-- What Tell answers. -/
def TellP (w w' : World) (e : Ending) : Except Nat (Nat × List (Nat × Nat)) → Prop
  | .ok (r, l) => if 1 ≤ r ∧ r ≤ 400 then ∃ v, e = .returned (.tuple #[v, .int .i64 0]) ∧ w'.ownsRow w.heap.size 9 1 v (l.length + 1) ((told r l).map str) else e = .returned (.tuple #[.slice none 0 0, .int .i64 2])
  | .error k => e = .returned (.tuple #[.slice none 0 0, .int .i64 1])
theorem own_ty {w : World} {base : Nat} {e : TypeId} {v : Value} {n : Nat} {xs : List Value} (h : w.ownsRow base e 1 v n xs) {b : Nat} (hb : v.ownBlock = some b) : ∃ cs, w.heap[b]? = some (.cells cs e (0, 0)) := by
  rcases h.2 with ⟨rfl, -⟩ | ⟨g, cap, cur, rfl, hbs, hgg, -⟩
  · cases hb
  · cases hb; exact ⟨_, hgg⟩
/-- A row of another type is not touched where a row grows. -/
theorem own_other {w w' : World} {base base2 : Nat} {e e2 : TypeId} {v u : Value} {n m : Nat} {xs ys : List Value} {o : Obj} (h : w.ownsRow base e 1 v n xs) (hu : w.ownsRow base2 e2 1 u m ys) (hne : e ≠ e2) (hg : (w.alloc o).grownBy w' u.ownBlock) : w'.ownsRow base e 1 v n xs := by
  refine ⟨h.1, ?_⟩
  rcases h.2 with hn | ⟨g, cap, cur, rfl, hbs, hgg, rest⟩
  · exact .inl hn
  · refine .inr ⟨g, cap, cur, rfl, hbs, ?_, rest⟩
    have hlt : g < w.heap.size := by
      rcases Nat.lt_or_ge g w.heap.size with h1 | h1
      · exact h1
      · rw [Array.getElem?_eq_none h1] at hgg; cases hgg
    rw [hg.block g (by simp; omega) (fun hgv => ?_)]
    · rw [Below.heap_alloc _ _ _ hlt]; exact hgg
    · obtain ⟨cs', hcs'⟩ := own_ty hu hgv.symm
      rw [hgg] at hcs'
      cases hcs'
      exact hne rfl
theorem Tryz.info9 : (Tryz.prog.info? 9).map (fun i => (i.zero, i.size, i.bytes)) = some (some (.string ⟨#[]⟩), 1, 16) := by kernel_rfl
theorem pushS {P : Program} {w : World} {ops : Array Oper} {rest : List Oper} {o : Oper} {a : Act} {Q : Exit → Act → World → Prop} (hgd : o.guard = none) (s x : Operand) (t : TypeId)
    (ho : o.op = .call { callee := .builtin .append, args := #[s, x], argTypes := #[t, t] })
    (base : Nat) (e : TypeId) (i : TypeInfo) (z : Value) (ht : P.underlying t = some (.slice e)) (hi : P.info? e = some i) (hz : i.zero = some z)
    (hsize : i.size = 1) (hby : i.bytes = 16) (hzs : z.cells.size = 1)
    (v : Value) (n : Nat) (xs : List Value) (hs : a.eval s = v) (hown : w.ownsRow base e 1 v n xs)
    (u : Value) (b : Nat) (hx : a.eval x = .slice (some ⟨b, 0, none⟩) 1 1) (hbl : b = w.heap.size) (h1 : u.oneCell' = true)
    (h63 : n + 1 ≤ 8000000000000) (hbase : base ≤ w.heap.size)
    (h : ∀ v' w', w'.ownsRow base e 1 v' (n + 1) (xs ++ [u]) → (w.alloc (.cells #[u] e)).grownBy w' v.ownBlock → wpList P ops Q rest (a.put o.dst v') w') :
    wpList P ops Q (o :: rest) a (w.alloc (.cells #[u] e)) := by
  subst hbl
  refine wpList_append_own _ hgd s x t ho base e i z 1 16 ht hi hz hsize hby hzs (by decide) v n xs hs (hown.alloc _) ⟨w.heap.size, 0, none⟩ 1 1 [u] hx rfl ?_ ?_ ?_ ?_ ?_ ?_
  · intro j u' hj
    match j, hj with
    | 0, hj => simp at hj; subst hj; simp [Addr.add]
  · intro u' hu'; simp at hu'; subst hu'; exact h1
  · unfold maxLen; omega
  · omega
  · simp; omega
  · intro v' w' ho' hg _; exact h v' w' ho' hg
theorem comeC_get (l : List (Nat × Nat)) : ∀ i, i < l.length → (comeC l)[i * 2]? = some (.int .i64 ((l.getD i (0, 0)).1 : Nat)) ∧ (comeC l)[i * 2 + 1]? = some (.int .i64 ((l.getD i (0, 0)).2 : Nat)) := by
  induction l with
  | nil => intro i h; cases h
  | cons p l ih =>
    intro i h
    cases i with
    | zero => exact ⟨rfl, rfl⟩
    | succ i =>
      have := ih i (by simpa using h)
      rw [show (i + 1) * 2 = i * 2 + 1 + 1 by omega]
      exact this
theorem own2_cells {w : World} {base : Nat} {v : Value} {l : List (Nat × Nat)} (h : w.ownsRow base 60 2 v l.length (comeC l)) : ∃ a cap, v = .slice a l.length cap ∧ (l ≠ [] → ∃ g, a = some ⟨g, 0, none⟩ ∧ g < w.heap.size ∧ ∀ i, i < l.length → w.cell? ⟨g, i * 2, none⟩ = some (.int .i64 ((l.getD i (0, 0)).1 : Nat)) ∧ w.cell? ⟨g, i * 2 + 1, none⟩ = some (.int .i64 ((l.getD i (0, 0)).2 : Nat))) := by
  rcases h.2 with ⟨rfl, h0⟩ | ⟨g, cap, cur, rfl, _⟩
  · refine ⟨none, 0, by rw [h0], fun hl => ?_⟩
    exact absurd (List.length_eq_zero_iff.1 h0) hl
  · refine ⟨_, _, rfl, fun _ => ⟨g, rfl, (h.lt g rfl).2, fun i hi => ⟨?_, ?_⟩⟩⟩
    · rw [h.cellAt (i * 2) (by omega)]; exact (comeC_get l i hi).1
    · rw [h.cellAt (i * 2 + 1) (by omega)]; exact (comeC_get l i hi).2
theorem own_form {w : World} {base : Nat} {e : TypeId} {v : Value} {n : Nat} {xs : List Value} (h : w.ownsRow base e 1 v n xs) : ∃ a k, v = .slice a n k := by
  rcases h.2 with ⟨rfl, h0⟩ | ⟨g, cap, cur, rfl, _⟩
  · exact ⟨_, _, by rw [h0]⟩
  · exact ⟨_, _, rfl⟩
theorem str_app (a b : List UInt8) : (⟨a.toArray⟩ : ByteArray) ++ ⟨b.toArray⟩ = ⟨(a ++ b).toArray⟩ := by
  apply ByteArray.ext; simp
set_option maxHeartbeats 1600000 in
set_option maxRecDepth 20000 in
theorem tell_any (t : List UInt8) (w : World) (hT : TW w) (hl : t.length < 4294967281) :
    Calls Tryz.prog 10 #[.string ⟨t.toArray⟩] w fun e w' => Below w.heap.size w w' ∧ TellP w w' e (parse t) := by
  obtain ⟨i9, hi9, hz0, hz1, hz2⟩ := info_parts Tryz.info9
  have HP := Lib.hid (parse_any t w hT hl)
  have HTT := Lib.hid hT
  clear hT
  go_enter Tryz.func10, Tryz.ntmps10
  go_wp2_with fail
  refine HP.out.mono ?_
  rintro e w1 ⟨hb1, hp⟩
  have HB1 := Lib.hid hb1
  cases hpt : parse t with
  | error k =>
    rw [hpt] at hp
    obtain rfl : e = _ := hp
    have HPT := Lib.hid hpt
    clear HP hpt hb1
    go_wp2_with fail
    go_ret2
    rw [HPT.out]
    exact ⟨HB1.out, rfl⟩
  | ok rl =>
    obtain ⟨r, l⟩ := rl
    rw [hpt] at hp
    obtain ⟨v, rfl, hv⟩ := hp
    obtain ⟨⟨hrb, hfit⟩, htx⟩ := (parse_ok t r l).1 hpt
    have hlen : l.length < 4294967281 := by
      have h1 := textT_count r l
      rw [← htx] at h1
      have h2 : t.count 10 ≤ t.length := List.count_le_length
      omega
    have HFI := Lib.hid hfit
    obtain ⟨a, cap, rfl, hcells⟩ := own2_cells hv
    have HN := Lib.hid (new_any r)
    clear HP htx hv hfit
    by_cases hr : 1 ≤ r ∧ r ≤ 400
    · have HQ : Hid (∀ w' e, TellP w w' e (parse t) = ∃ v, e = .returned (.tuple #[v, .int .i64 0]) ∧ w'.ownsRow w.heap.size 9 1 v (l.length + 1) ((told r l).map str)) := fun w' e => by rw [hpt]; exact if_pos hr
      have HN : Hid (∀ w, Calls Tryz.prog 20 #[.int .i64 r] w fun e w' => e = .returned (.tuple #[.agg #[.int .i64 r, .int .i64 0, .slice none 0 0], .int .i64 0]) ∧ Below w.heap.size w w') := fun w => by have := HN.out w; rwa [if_pos (by omega)] at this
      clear hpt
      go_wp2_with fail
      refine (HN.out _).mono ?_
      rintro e w2 ⟨rfl, hb2⟩
      have HB2 := Lib.hid (((HB1.out.trans (hb2.mono HB1.out.size))))
      have hs2 := HB2.out.size
      have HC : Hid (l ≠ [] → ∃ g, a = some ⟨g, 0, none⟩ ∧ g < w2.heap.size ∧ ∀ i, i < l.length → w2.cell? ⟨g, i * 2, none⟩ = some (.int .i64 ((l.getD i (0, 0)).1 : Nat)) ∧ w2.cell? ⟨g, i * 2 + 1, none⟩ = some (.int .i64 ((l.getD i (0, 0)).2 : Nat))) := fun hl => by
        obtain ⟨g, e1, e2, e3⟩ := hcells hl
        have hsz := hb2.size
        refine ⟨g, e1, by omega, fun i hi => ?_⟩
        exact ⟨(World.cell?_of_block (hb2.block g e2)).trans (e3 i hi).1, (World.cell?_of_block (hb2.block g e2)).trans (e3 i hi).2⟩
      clear hb2 hb1 hcells
      have HBX := Lib.hid (BX.new w2 r 0 (.slice none 0 0))
      go_wp2_with fail
      obtain ⟨n, hn⟩ : ∃ n, l.length = n := ⟨_, rfl⟩
      have HLN := Lib.hid hn
      rw [hn] at hlen HQ ⊢
      clear hn HBX
      go_loopw [9, 37] (fun ov kv wr => ∃ (k : Nat) (c : Int) (zs : List Int) (o : List (List UInt8)) (hv : Value), k ≤ n ∧ kv = .int .i64 k ∧ Hid (OkS r (c, zs)) ∧ Hid (runT r (0, []) l = runT r (c, zs) (l.drop k)) ∧ Hid (sayT r (0, []) l = o ++ sayT r (c, zs) (l.drop k)) ∧ Hid (o.length = k) ∧ Hid (Below w2.heap.size w2 wr) ∧ Hid (w2.heap.size + 1 ≤ wr.heap.size) ∧ Hid (BX wr w2.heap.size r c hv) ∧ Hid (wr.ownsRow (w2.heap.size + 1) 3 1 hv zs.length (zs.map (Value.int .i64))) ∧ Hid (wr.ownsRow (w2.heap.size + 1) 9 1 ov k (o.map str))) (fun _ kv _ => n - (intOf kv).toNat)
      case atStart =>
        exact ⟨0, 0, [], [], .slice none 0 0, Nat.zero_le _, rfl, OkS.new (by omega), rfl, rfl, rfl, (Below.refl _ _).alloc (Nat.le_refl _) _, by show _ ≤ _; simp, BX.new _ _ _ _, World.ownsRow_nil _ _ _ _, World.ownsRow_nil _ _ _ _⟩
      case round =>
        obtain ⟨k, c, zs, o, hv, hk, rfl, HOK, HRUN, HSAY, HOL, HB, HSZ, HX, HZ, HO⟩ := hrel
        by_cases hlt : k < n
        · have hlt2 : (k : Int) < (n : Int) := by omega
          have hkl : k < l.length := by rw [HLN.out]; exact hlt
          have hne : l ≠ [] := fun h => by rw [h] at hkl; cases hkl
          obtain ⟨g, rfl, hg, hcs⟩ := HC.out hne
          have hc0 := (hcs k hkl).1
          have hc1 := (hcs k hkl).2
          have hd : l.drop k = l.getD k (0, 0) :: l.drop (k + 1) := by
            rw [List.drop_eq_getElem_cons hkl, List.getD_eq_getElem?_getD, List.getElem?_eq_getElem hkl]; rfl
          have hpb := HFI.out (l.getD k (0, 0)) (by rw [List.getD_eq_getElem?_getD, List.getElem?_eq_getElem hkl]; exact List.getElem_mem hkl)
          obtain ⟨⟨x, d⟩, hp⟩ : ∃ p, l.getD k (0, 0) = p := ⟨_, rfl⟩
          rw [hp] at hc0 hc1 hd hpb
          have c0 : wr.cell? ⟨g, k * 2, none⟩ = some (.int .i64 (x : Int)) := (World.cell?_of_block (HB.out.block g hg)).trans hc0
          have c1 : wr.cell? ⟨g, k * 2 + 1, none⟩ = some (.int .i64 (d : Int)) := (World.cell?_of_block (HB.out.block g hg)).trans hc1
          have HRUN := Lib.hid HRUN.out
          have HSAY := Lib.hid HSAY.out
          rw [hd] at HRUN HSAY
          have HPB := Lib.hid hpb.1
          have hOK2 := HOK.out.step (p := (x, d)) hpb.1
          have hRUN2 : runT r (0, []) l = runT r (stp r (c, zs) (x, d)) (l.drop (k + 1)) := HRUN.out
          have hSAY2 : sayT r (0, []) l = (o ++ [sayL (c, zs) (x, d)]) ++ sayT r (stp r (c, zs) (x, d)) (l.drop (k + 1)) := by rw [HSAY.out]; simp [sayT]
          clear HRUN HSAY hd hp hc0 hc1 hcs hpb hkl hne
          obtain ⟨a2, k2, rfl⟩ := own_form HZ.out
          have HX1 : Hid (BX (wr.alloc (.cells #[.int .i64 x, .int .i64 d] 60)) w2.heap.size r c (.slice a2 zs.length k2)) := HX.out.below ((Below.refl wr.heap.size wr).alloc (Nat.le_refl _) _) HSZ.out
          have d0 := HX1.out.c0
          have d1 := HX1.out.c1
          have d2 := HX1.out.c2
          have hsz := HSZ.out
          by_cases he : addE c d = 0
          · have HST : Hid (stp r (c, zs) (x, d) = (c + 1, addL r zs x d)) := if_pos he
            have HSL : Hid (sayL (c, zs) (x, d) = [111, 107]) := if_pos he
            rw [HST.out] at hOK2 hRUN2 hSAY2
            rw [HSL.out] at hSAY2
            have HOK2 := Lib.hid hOK2
            have HRUN2 := Lib.hid hRUN2
            have HSAY2 := Lib.hid hSAY2
            have HADD : Hid (∀ w', Rd w' (.slice a2 zs.length k2) zs → Calls Tryz.prog 21 #[.agg #[.int .i64 r, .int .i64 c, .slice a2 zs.length k2], .int .i64 x, .int .i64 d] w' fun e w3 => Below w'.heap.size w' w3 ∧ ∃ v', e = .returned (.tuple #[.agg #[.int .i64 r, .int .i64 (c + 1), v'], .int .i64 0]) ∧ w3.ownsRow w'.heap.size 3 1 v' (addL r zs x d).length ((addL r zs x d).map (Value.int .i64))) := fun w' h => add_ok r c x d _ zs w' h HOK.out.1 he
            have HRD : Hid (Rd (wr.alloc (.cells #[.int .i64 x, .int .i64 d] 60)) (.slice a2 zs.length k2) zs) := (Rd.own HZ.out).alloc _
            obtain ⟨m, hm⟩ : ∃ m, zs.length = m := ⟨_, rfl⟩
            rw [hm] at HADD HRD d2 HX1 HZ HX
            obtain ⟨zs2, hz2'⟩ : ∃ zs2, addL r zs x d = zs2 := ⟨_, rfl⟩
            rw [hz2'] at HADD HOK2 HRUN2 HSAY2
            clear hOK2 hRUN2 hSAY2 he hm hz2'
            go_wp2_with fail
            refine (HADD.out _ HRD.out).mono ?_
            rintro e w3 ⟨hb3, v', rfl, hv'⟩
            have hb4 : Below wr.heap.size wr w3 := ((Below.refl wr.heap.size wr).alloc (Nat.le_refl _) _).trans (hb3.mono (by simp))
            have hs3 : wr.heap.size + 1 ≤ w3.heap.size := by have := hb3.size; simpa using this
            have HX3 := Lib.hid (HX1.out.below hb3 (by simp; omega))
            have HO3 := Lib.hid (own_below HO.out hb4 (Nat.le_refl _))
            have HV3 := Lib.hid (own_base hv' (show w2.heap.size + 1 ≤ _ by simp; omega))
            have HB4 := Lib.hid (HB.out.trans (hb4.mono HB.out.size))
            obtain ⟨a3, k3, rfl⟩ := own_form hv'
            obtain ⟨m3, hm3⟩ : ∃ m3, zs2.length = m3 := ⟨_, rfl⟩
            rw [hm3] at HV3 ⊢
            have HM3 := Lib.hid hm3
            clear hb3 hb4 hv' hm3 d0 d1 d2 c0 c1
            have HX4 : Hid (BX (w3.alloc (.cells #[.int .i64 r, .int .i64 (c + 1), .slice a3 m3 k3] 56)) w2.heap.size r c (.slice a2 m k2)) := HX3.out.below ((Below.refl w3.heap.size w3).alloc (Nat.le_refl _) _) (by omega)
            have e0 := HX4.out.c0
            have e1 := HX4.out.c1
            have e2 := HX4.out.c2
            have f0 := HX4.out.fr 0
            have f1 := HX4.out.fr 1
            have f2 := HX4.out.fr 2
            have HO4 : Hid (((((w3.alloc (.cells #[.int .i64 r, .int .i64 (c + 1), .slice a3 m3 k3] 56)).setCell ⟨w2.heap.size, 0, none⟩ (.int .i64 r)).setCell ⟨w2.heap.size, 1, none⟩ (.int .i64 (c + 1))).setCell ⟨w2.heap.size, 2, none⟩ (.slice a3 m3 k3)).ownsRow (w2.heap.size + 1) 9 1 u9 k (o.map str)) := own_store (own_store (own_store (HO3.out.alloc _) (Nat.lt_succ_self _) _) (Nat.lt_succ_self _) _) (Nat.lt_succ_self _) _
            have HV4 : Hid (((((w3.alloc (.cells #[.int .i64 r, .int .i64 (c + 1), .slice a3 m3 k3] 56)).setCell ⟨w2.heap.size, 0, none⟩ (.int .i64 r)).setCell ⟨w2.heap.size, 1, none⟩ (.int .i64 (c + 1))).setCell ⟨w2.heap.size, 2, none⟩ (.slice a3 m3 k3)).ownsRow (w2.heap.size + 1) 3 1 (.slice a3 m3 k3) m3 (zs2.map (Value.int .i64))) := by
              exact own_store (own_store (own_store (HV3.out.alloc _) (Nat.lt_succ_self _) _) (Nat.lt_succ_self _) _) (Nat.lt_succ_self _) _
            have HX5 : Hid (BX ((((w3.alloc (.cells #[.int .i64 r, .int .i64 (c + 1), .slice a3 m3 k3] 56)).setCell ⟨w2.heap.size, 0, none⟩ (.int .i64 r)).setCell ⟨w2.heap.size, 1, none⟩ (.int .i64 (c + 1))).setCell ⟨w2.heap.size, 2, none⟩ (.slice a3 m3 k3)) w2.heap.size r (c + 1) (.slice a3 m3 k3)) := ((HX4.out.set0 r).set1 (c + 1)).set2 _
            have HB5 : Hid (Below w2.heap.size w2 ((((w3.alloc (.cells #[.int .i64 r, .int .i64 (c + 1), .slice a3 m3 k3] 56)).setCell ⟨w2.heap.size, 0, none⟩ (.int .i64 r)).setCell ⟨w2.heap.size, 1, none⟩ (.int .i64 (c + 1))).setCell ⟨w2.heap.size, 2, none⟩ (.slice a3 m3 k3))) := (((HB4.out.alloc (by omega) _).setCell (Nat.le_refl _) _).setCell (Nat.le_refl _) _).setCell (Nat.le_refl _) _
            have hs9 : w2.heap.size + 1 ≤ ((((w3.alloc (.cells #[.int .i64 r, .int .i64 (c + 1), .slice a3 m3 k3] 56)).setCell ⟨w2.heap.size, 0, none⟩ (.int .i64 r)).setCell ⟨w2.heap.size, 1, none⟩ (.int .i64 (c + 1))).setCell ⟨w2.heap.size, 2, none⟩ (.slice a3 m3 k3)).heap.size := by simp [World.setCell]; omega
            have HK : Hid (k + 1 ≤ 8000000000000) := by show _ ≤ _; omega
            go_wp2_with (at_builtin; go_must (refine pushS rfl _ _ 34 rfl (w2.heap.size + 1) 9 i9 (.string ⟨#[]⟩) Tryz.underlying34 hi9 hz0 hz1 hz2 rfl _ k (o.map str) rfl HO4.out (.string ⟨#[111, 107]⟩) (w3.heap.size + 1) rfl (by simp [World.setCell]) rfl HK.out hs9 ?_))
            intro v5 w5 hown5 hgr5
            have hb5 := grown_below hgr5 HO4.out (Below.refl _ _) (Nat.le_refl _) hs9
            have HO5 : Hid (w5.ownsRow (w2.heap.size + 1) 9 1 v5 (k + 1) ((o ++ [[111, 107]]).map str)) := by
              show World.ownsRow _ _ _ _ _ _ _
              rw [List.map_append]; exact hown5
            have HV5 := Lib.hid (own_other HV4.out HO4.out (by decide) hgr5)
            have HX6 := Lib.hid (HX5.out.below hb5 (Nat.lt_succ_self _))
            have HB6 := Lib.hid (HB5.out.trans (hb5.mono (Nat.le_succ _)))
            have HS6 : Hid (w2.heap.size + 1 ≤ w5.heap.size) := by
              show _ ≤ _
              have := hb5.size
              omega
            clear hown5 hgr5 hb5 e0 e1 e2 f0 f1 f2 hs9
            go_wp2_with fail
            go_roundw
            case rel => exact ⟨k + 1, c + 1, zs2, o ++ [[111, 107]], _, by omega, by go_num, HOK2.out, HRUN2.out, HSAY2.out, by show _ = _; rw [List.length_append, HOL.out]; rfl, HB6.out, HS6.out, HX6.out, by show World.ownsRow _ _ _ _ _ _ _; rw [HM3.out]; exact HV5.out, HO5.out⟩
            case measure => simp [intOf]; omega
          · have HST : Hid (stp r (c, zs) (x, d) = (c, zs)) := if_neg he
            have HSL : Hid (sayL (c, zs) (x, d) = [101, 114, 114, 111, 114, 32] ++ Lib.itoa (addE c d)) := if_neg he
            rw [HST.out] at hOK2 hRUN2 hSAY2
            rw [HSL.out] at hSAY2
            have HOK2 := Lib.hid hOK2
            have HRUN2 := Lib.hid hRUN2
            have HADD : Hid (∀ w', Calls Tryz.prog 21 #[.agg #[.int .i64 r, .int .i64 c, .slice a2 zs.length k2], .int .i64 x, .int .i64 d] w' fun e w3 => e = .returned (.tuple #[.agg #[.int .i64 0, .int .i64 0, .slice none 0 0], .int .i64 (addE c d)]) ∧ Below w'.heap.size w' w3) := fun w' => add_bad r c x d a2 zs.length k2 w' HOK.out.1 he
            have hebd := addE_bd c d
            obtain ⟨E, hE⟩ : ∃ E, addE c d = E := ⟨_, rfl⟩
            rw [hE] at he HADD HSL hSAY2 hebd
            have HSAY2 := Lib.hid hSAY2
            have qE : (E == 0) = false := by rw [beq_eq_false_iff_ne]; exact he
            have qE2 : (!E == 0) = true := by rw [qE]; rfl
            have qL : (9223372036854775807 < 6 + (Lib.itoa E).length) = False := eq_false (by have := Lib.itoa_length_le E (by omega) (by omega); omega)
            have HIT : Hid (∀ w', TW w' → Calls Tryz.prog 22 #[.int .i64 E] w' fun e w3 => e = .returned (.string ⟨(Lib.itoa E).toArray⟩) ∧ Below w'.heap.size w' w3) := fun w' h => itoa_any E w' h (by omega)
            obtain ⟨m, hm⟩ : ∃ m, zs.length = m := ⟨_, rfl⟩
            have HZM := Lib.hid hm
            rw [hm] at HADD d2 HX1 HZ HX
            clear hOK2 hRUN2 hSAY2 he hm hE hebd
            go_wp2_with fail
            refine (HADD.out _).mono ?_
            rintro e w3 ⟨rfl, hb3⟩
            have hb4 : Below wr.heap.size wr w3 := ((Below.refl wr.heap.size wr).alloc (Nat.le_refl _) _).trans (hb3.mono (by simp))
            have hs3 : wr.heap.size + 1 ≤ w3.heap.size := by have := hb3.size; simpa using this
            have hb5 : Below wr.heap.size wr (w3.alloc (.cells #[.int .i64 0, .int .i64 0, .slice none 0 0] 56)) := hb4.alloc (by omega) _
            have HT5 : Hid (TW (w3.alloc (.cells #[.int .i64 0, .int .i64 0, .slice none 0 0] 56))) := HTT.out.below (HB2.out.trans ((HB.out.trans (hb5.mono HB.out.size)).mono hs2)) (Nat.le_refl _)
            have HBW := Lib.hid hb5
            clear hb3 hb4 hb5 d0 d1 d2 c0 c1
            go_wp2_with fail
            refine (HIT.out _ HT5.out).mono ?_
            rintro e w4 ⟨rfl, hb6⟩
            have hb7 := HBW.out.trans (hb6.mono HBW.out.size)
            have hs4 : wr.heap.size + 1 ≤ w4.heap.size := by have := hb6.size; simp at this; omega
            have HO4 := Lib.hid (own_below HO.out hb7 (Nat.le_refl _))
            have HV4 := Lib.hid (own_below HZ.out hb7 (Nat.le_refl _))
            have HX4 := Lib.hid (HX.out.below hb7 (by omega))
            have HB4 := Lib.hid (HB.out.trans (hb7.mono HB.out.size))
            have hs9 : w2.heap.size + 1 ≤ w4.heap.size := by omega
            have HK : Hid (k + 1 ≤ 8000000000000) := by show _ ≤ _; omega
            clear hb6 hb7
            go_wp2_with (at_builtin; go_must (refine pushS rfl _ _ 34 rfl (w2.heap.size + 1) 9 i9 (.string ⟨#[]⟩) Tryz.underlying34 hi9 hz0 hz1 hz2 rfl _ k (o.map str) rfl HO4.out (.string ((⟨#[101, 114, 114, 111, 114, 32]⟩ : ByteArray) ++ (⟨(Lib.itoa E).toArray⟩ : ByteArray))) w4.heap.size rfl rfl rfl HK.out hs9 ?_))
            intro v5 w5 hown5 hgr5
            have hb5 := grown_below hgr5 HO4.out (Below.refl _ _) (Nat.le_refl _) hs9
            have HO5 : Hid (w5.ownsRow (w2.heap.size + 1) 9 1 v5 (k + 1) ((o ++ [[101, 114, 114, 111, 114, 32] ++ Lib.itoa E]).map str)) := by
              show World.ownsRow _ _ _ _ _ _ _
              rw [List.map_append]
              rw [show (⟨#[101, 114, 114, 111, 114, 32]⟩ : ByteArray) = ⟨[101, 114, 114, 111, 114, 32].toArray⟩ from rfl, str_app] at hown5
              exact hown5
            have HV5 := Lib.hid (own_other HV4.out HO4.out (by decide) hgr5)
            have HX6 := Lib.hid (HX4.out.below hb5 (Nat.lt_succ_self _))
            have HB6 := Lib.hid (HB4.out.trans (hb5.mono (Nat.le_succ _)))
            have HS6 : Hid (w2.heap.size + 1 ≤ w5.heap.size) := by
              show _ ≤ _
              have := hb5.size
              omega
            clear hown5 hgr5 hb5 hs9
            go_wp2_with fail
            go_roundw
            case rel => exact ⟨k + 1, c, zs, o ++ [[101, 114, 114, 111, 114, 32] ++ Lib.itoa E], _, by omega, by go_num, HOK2.out, HRUN2.out, HSAY2.out, by show _ = _; rw [List.length_append, HOL.out]; rfl, HB6.out, HS6.out, HX6.out, by show World.ownsRow _ _ _ _ _ _ _; rw [HZM.out]; exact HV5.out, HO5.out⟩
            case measure => simp [intOf]; omega
        · obtain rfl : k = n := by omega
          have hdr : l.drop k = [] := List.drop_of_length_le (by rw [HLN.out]; exact Nat.le_refl _)
          have HRUN2 : Hid (runT r (0, []) l = (c, zs)) := by show _ = _; rw [HRUN.out, hdr]; rfl
          have HSAY2 : Hid (sayT r (0, []) l = o) := by show _ = _; rw [HSAY.out, hdr]; simp [sayT]
          have d1 := HX.out.c1
          have d2 := HX.out.c2
          have hc := HOK.out.1
          have HTR := Lib.hid (HTT.out.below (HB2.out.trans (HB.out.mono hs2)) (Nat.le_refl _))
          have HI := Lib.hid (itoa_any c wr HTR.out (by have h : RightP r c zs.length := hc; obtain ⟨_, _, _, _, _⟩ := h; omega))
          obtain ⟨a2, k2, rfl⟩ := own_form HZ.out
          obtain ⟨m, hm⟩ : ∃ m, zs.length = m := ⟨_, rfl⟩
          have HZM := Lib.hid hm
          rw [hm] at HX HZ d2
          have qL : (9223372036854775807 < 5 + (Lib.itoa c).length) = False := eq_false (by have := Lib.itoa_length_le c (by have h : RightP r c zs.length := hc; obtain ⟨_, _, _, _, _⟩ := h; omega) (by have h : RightP r c zs.length := hc; obtain ⟨_, _, _, _, _⟩ := h; omega); omega)
          have HCL : Hid ((Lib.itoa c).length ≤ 21) := Lib.itoa_length_le c (by have h : RightP r c zs.length := hc; obtain ⟨_, _, _, _, _⟩ := h; omega) (by have h : RightP r c zs.length := hc; obtain ⟨_, _, _, _, _⟩ := h; omega)
          clear hdr hm hc
          go_wp2_with fail
          refine HI.out.mono ?_
          rintro e w3 ⟨rfl, hb3⟩
          have hb3s := hb3.size
          have HX3 := Lib.hid (HX.out.below hb3 HSZ.out)
          have HO3 := Lib.hid (own_below HO.out hb3 (Nat.le_refl _))
          have HV3 := Lib.hid (own_below HZ.out hb3 (Nat.le_refl _))
          have HB3 := Lib.hid (HB.out.trans (hb3.mono HB.out.size))
          have HT3 := Lib.hid (HTR.out.below hb3 (Nat.le_refl _))
          have hs3 : w2.heap.size + 1 ≤ w3.heap.size := Nat.le_trans HSZ.out hb3s
          clear hb3 hb3s d1 d2
          have d2 := HX3.out.c2
          go_wp2_with fail
          clear d2
          obtain ⟨wo, hwo⟩ : ∃ wo, wo = wr := ⟨_, rfl⟩
          subst hwo
          go_loopw [14, 70] (fun tv jv wq => ∃ (j : Nat) (S : List UInt8), j ≤ m ∧ jv = .int .i64 j ∧ tv = .string ⟨S.toArray⟩ ∧ Hid (S = [107, 101, 112, 116, 32] ++ Lib.itoa c ++ spell (zs.take j)) ∧ S.length ≤ 26 + 52 * j ∧ Hid (Below w3.heap.size w3 wq)) (fun _ jv _ => m - (intOf jv).toNat)
          case atStart =>
            refine ⟨0, [107, 101, 112, 116, 32] ++ Lib.itoa c, Nat.zero_le _, rfl, ?_, by show _ = _; simp [spell], ?_, Below.refl _ _⟩
            · rw [show (⟨#[107, 101, 112, 116, 32]⟩ : ByteArray) = ⟨[107, 101, 112, 116, 32].toArray⟩ from rfl, str_app]
            · have := HCL.out
              simp
              omega
          case round =>
            obtain ⟨j, S, hj, rfl, rfl, HS, hSl, HBJ⟩ := hrel
            by_cases hjl : j < m
            · have hjl2 : (j : Int) < (m : Int) := by omega
              obtain ⟨g, cp, hg⟩ := own_slice HV3.out (by omega)
              injection hg with hg1 hg2 hg3
              subst hg1
              subst hg3
              have hjz : j < zs.length := by rw [HZM.out]; exact hjl
              have hc1 : w3.cell? ⟨g, j, none⟩ = some (.int .i64 (zs.getD j 0)) := by
                rw [HV3.out.cellAt j (by omega), List.getElem?_map, List.getD_eq_getElem?_getD, List.getElem?_eq_getElem hjz]; rfl
              have hc2 : wr.cell? ⟨g, j, none⟩ = some (.int .i64 (zs.getD j 0)) := (World.cell?_of_block (HBJ.out.block g (HV3.out.lt g rfl).2)).trans hc1
              have hzb := HOK.out.2 (zs.getD j 0) (by rw [List.getD_eq_getElem?_getD, List.getElem?_eq_getElem hjz]; exact List.getElem_mem hjz)
              have HSP : Hid (spell (zs.take (j + 1)) = spell (zs.take j) ++ (32 :: Lib.itoa (zs.getD j 0))) := by
                show _ = _
                have e : zs.take (j + 1) = zs.take j ++ [zs.getD j 0] := by rw [List.take_add_one, List.getD_eq_getElem?_getD, List.getElem?_eq_getElem hjz]; rfl
                unfold spell
                rw [e, List.map_append, List.flatten_append]
                congr 1
                show (32 :: Lib.itoa (zs.getD j 0)) ++ [] = _
                rw [List.append_nil]
              obtain ⟨z, hz⟩ : ∃ z, zs.getD j 0 = z := ⟨_, rfl⟩
              rw [hz] at hc2 hzb HSP
              have HTJ := Lib.hid (HT3.out.below HBJ.out (Nat.le_refl _))
              have HI := Lib.hid (itoa_any z wr HTJ.out (by omega))
              have hzl := Lib.itoa_length_le z (by omega) (by omega)
              have hm4 : m ≤ 400 := by have h : RightP r c zs.length := HOK.out.1; obtain ⟨_, _, _, _, _⟩ := h; have := HZM.out; omega
              have HSL : Hid (S.length ≤ 26 + 52 * j) := hSl
              have HZL : Hid ((Lib.itoa z).length ≤ 21) := hzl
              have q1 : (9223372036854775807 < 1 + (Lib.itoa z).length) = False := eq_false (by omega)
              have q2 : (9223372036854775807 < S.length + (1 + (Lib.itoa z).length)) = False := eq_false (by omega)
              clear hz hc1 hjz hzb hzl hSl
              go_wp2_with fail
              refine HI.out.mono ?_
              rintro e w4 ⟨rfl, hb4⟩
              have HB4 := Lib.hid (HBJ.out.trans (hb4.mono HBJ.out.size))
              clear hb4 hc2
              go_wp2_with fail
              go_roundw
              case rel =>
                refine ⟨j + 1, S ++ ([32] ++ Lib.itoa z), by omega, by go_num, ?_, ?_, ?_, HB4.out⟩
                · rw [show (⟨#[32]⟩ : ByteArray) = ⟨[32].toArray⟩ from rfl, str_app, str_app]
                · show _ = _
                  rw [HSP.out, HS.out]
                  simp
                · have := HSL.out
                  have := HZL.out
                  simp
                  omega
              case measure => simp [intOf]; omega
            · obtain rfl : j = m := by omega
              have HO4 := Lib.hid (own_below HO3.out HBJ.out (Nat.le_refl _))
              have HBF := Lib.hid (HB3.out.trans (HBJ.out.mono (by omega)))
              have hs9 : w2.heap.size + 1 ≤ wr.heap.size := by have := HBJ.out.size; omega
              have HK : Hid (k + 1 ≤ 8000000000000) := by show _ ≤ _; omega
              have HTD : Hid (told r l = o ++ [[107, 101, 112, 116, 32] ++ Lib.itoa c ++ spell (zs.take j)]) := by
                show _ = _
                unfold told keptT
                rw [HSAY2.out, HRUN2.out, List.take_of_length_le (by rw [HZM.out]; exact Nat.le_refl _)]
              rw [← HS.out] at HTD
              go_wp2_with (at_builtin; go_must (refine pushS rfl _ _ 34 rfl (w2.heap.size + 1) 9 i9 (.string ⟨#[]⟩) Tryz.underlying34 hi9 hz0 hz1 hz2 rfl _ k (o.map str) rfl HO4.out (.string ⟨S.toArray⟩) wr.heap.size rfl rfl rfl HK.out hs9 ?_))
              intro v5 w5 hown5 hgr5
              have hb5 := grown_below hgr5 HO4.out (Below.refl _ _) (Nat.le_refl _) hs9
              have HO5 : Hid (w5.ownsRow w.heap.size 9 1 v5 (k + 1) ((told r l).map str)) := by
                show World.ownsRow _ _ _ _ _ _ _
                rw [HTD.out, List.map_append]; exact own_base hown5 (by omega)
              have HB6 := Lib.hid (HB2.out.trans ((HBF.out.trans (hb5.mono (Nat.le_succ _))).mono hs2))
              clear hown5 hgr5 hb5 hs9
              go_wp2_with fail
              go_ret2
              rw [HQ.out]
              exact ⟨HB6.out, v5, rfl, HO5.out⟩
    · have HQ : Hid (∀ w' e, TellP w w' e (parse t) = (e = .returned (.tuple #[.slice none 0 0, .int .i64 2]))) := fun w' e => by rw [hpt]; exact if_neg hr
      have HN : Hid (∀ w, Calls Tryz.prog 20 #[.int .i64 r] w fun e w' => e = .returned (.tuple #[.agg #[.int .i64 0, .int .i64 0, .slice none 0 0], .int .i64 2]) ∧ Below w.heap.size w w') := fun w => by have := HN.out w; rwa [if_neg (by omega)] at this
      clear hcells
      clear hpt
      go_wp2_with fail
      refine (HN.out _).mono ?_
      rintro e w2 ⟨rfl, hb2⟩
      have HB2 := Lib.hid (((HB1.out.trans (hb2.mono HB1.out.size))))
      have hs2 := HB2.out.size
      clear hb2 hb1
      go_wp2_with fail
      go_ret2
      rw [HQ.out]
      exact ⟨HB2.out.alloc hs2 _, rfl⟩
end Go.Proofs.YthaiopgmncnekaaGreatDoor
