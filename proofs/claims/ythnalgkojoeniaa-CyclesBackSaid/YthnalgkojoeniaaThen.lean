/- perm.Then and perm.Back: what they answer. No condition. -/
import Derived.Test.YthnalgkojoeniaaRight
set_option linter.unusedSimpArgs false
set_option linter.unusedVariables false
namespace Go.Proofs.Ythnalgkojoeniaa
open Go.RowKit
theorem step_if {i y : Nat} {F : Nat → Nat} {G : Nat → Nat} (hy : F i = y) (k : Nat) : (if k = i then y else if k < i then F k else G k) = if k < i + 1 then F k else G k := by
  by_cases e : k = i
  · subst e; rw [if_pos rfl, if_pos (by omega), hy]
  · rw [if_neg e]
    by_cases e2 : k < i
    · rw [if_pos e2, if_pos (by omega)]
    · rw [if_neg e2, if_neg (by omega)]
set_option maxHeartbeats 800000 in
theorem then_bad (v v2 : Value) (zs ys : List Int) (w : World) (h : Rd w v zs) (h2 : Rd w v2 ys) (hno : ¬ (OkP zs ∧ OkP ys ∧ zs.length = ys.length)) :
    Calls Try.prog 9 #[v, v2] w fun e w' => Below w.heap.size w w' ∧ e = .returned (.tuple #[.slice none 0 0, .int .i64 1]) := by
  have HR := Lib.hid (fun w h => right_any v zs w h)
  have HR2 := Lib.hid (fun w h => right_any v2 ys w h)
  have H1 := Lib.hid h
  have H2 := Lib.hid h2
  obtain ⟨a, cap, rfl, -⟩ := h.open
  obtain ⟨a2, cap2, rfl, -⟩ := h2.open
  clear h h2
  by_cases k1 : OkP zs
  · rw [decide_eq_true k1] at HR
    by_cases k2 : OkP ys
    · rw [decide_eq_true k2] at HR2
      have hne : ¬ zs.length = ys.length := fun h => hno ⟨k1, k2, h⟩
      clear hno k1 k2
      generalize zs.length = n at *
      generalize ys.length = m at *
      go_enter Try.func9, Try.ntmps9
      go_wp2_with fail
      refine (HR.out _ H1.out).mono ?_
      rintro e w1 ⟨rfl, hb1⟩
      have HB1 := Lib.hid hb1
      have H21 := Lib.hid (H2.out.below hb1 (Nat.le_refl _))
      clear hb1
      go_wp2_with fail
      refine (HR2.out _ H21.out).mono ?_
      rintro e w2 ⟨rfl, hb2⟩
      have HB2 := Lib.hid (HB1.out.trans (hb2.mono HB1.out.size))
      clear hb2
      go_wp2_with fail
      go_ret2
      exact ⟨HB2.out, rfl⟩
    · rw [decide_eq_false k2] at HR2
      clear hno k1 k2
      go_enter Try.func9, Try.ntmps9
      go_wp2_with fail
      refine (HR.out _ H1.out).mono ?_
      rintro e w1 ⟨rfl, hb1⟩
      have HB1 := Lib.hid hb1
      have H21 := Lib.hid (H2.out.below hb1 (Nat.le_refl _))
      clear hb1
      go_wp2_with fail
      refine (HR2.out _ H21.out).mono ?_
      rintro e w2 ⟨rfl, hb2⟩
      have HB2 := Lib.hid (HB1.out.trans (hb2.mono HB1.out.size))
      clear hb2
      go_wp2_with fail
      go_ret2
      exact ⟨HB2.out, rfl⟩
  · rw [decide_eq_false k1] at HR
    clear hno k1
    go_enter Try.func9, Try.ntmps9
    go_wp2_with fail
    refine (HR.out _ H1.out).mono ?_
    rintro e w1 ⟨rfl, hb1⟩
    have HB1 := Lib.hid hb1
    clear hb1
    go_wp2_with fail
    go_ret2
    exact ⟨HB1.out, rfl⟩
set_option maxHeartbeats 1600000 in
theorem then_ok (v v2 : Value) (zs ys : List Int) (w : World) (h : Rd w v zs) (h2 : Rd w v2 ys) (k1 : OkP zs) (k2 : OkP ys) (hl : zs.length = ys.length) :
    Calls Try.prog 9 #[v, v2] w fun e w' => Below w.heap.size w w' ∧ ∃ u, e = .returned (.tuple #[u, .int .i64 0]) ∧ Rd w' u (tabI zs.length (fun k => nd ys (nd zs k))) := by
  obtain ⟨i0, hinfo, hz0, hz1, hz2⟩ := info_parts Try.info3t
  have HR := Lib.hid (fun w h => right_any v zs w h)
  have HR2 := Lib.hid (fun w h => right_any v2 ys w h)
  rw [decide_eq_true k1] at HR
  rw [decide_eq_true k2] at HR2
  have H1 := Lib.hid h
  have H2 := Lib.hid h2
  have K1 := Lib.hid k1
  have K2 := Lib.hid k2
  have hn := k1.1
  obtain ⟨a, cap, rfl, hlc, hcm, hop⟩ := h.open
  obtain ⟨a2, cap2, rfl, hlc2, hcm2, hop2⟩ := h2.open
  have HOP := Lib.hid hop
  have HOP2 := Lib.hid hop2
  have HND : Hid (∀ k, k < zs.length → zs.getD k 0 = (nd zs k : Int) ∧ nd zs k < zs.length) := fun k hk => ⟨k1.nd hk, k1.lt hk⟩
  have HND2 : Hid (∀ k, k < zs.length → ys.getD k 0 = (nd ys k : Int)) := fun k hk => k2.nd (by omega)
  rw [← hl] at HR2 HOP2 H2 hlc2 ⊢
  generalize zs.length = n at *
  clear h h2 hop hop2 k1 k2 hl
  go_enter Try.func9, Try.ntmps9
  go_wp2_with fail
  refine (HR.out _ H1.out).mono ?_
  rintro e w1 ⟨rfl, hb1⟩
  have HB1 := Lib.hid hb1
  have H21 := Lib.hid (H2.out.below hb1 (Nat.le_refl _))
  clear hb1
  go_wp2_with fail
  refine (HR2.out _ H21.out).mono ?_
  rintro e w2 ⟨rfl, hb2⟩
  have HB2 := Lib.hid (HB1.out.trans (hb2.mono HB1.out.size))
  have b2 : i0.bytes * n ≤ 281474976710656 := by rw [hz2]; omega
  have b3 : n ≤ maxLen := by unfold maxLen; omega
  clear hb2
  go_wp2_with (refine wpList_make_full _ rfl _ _ 22 rfl w2.heap.size 3 i0 (.int .i64 0) 1 Try.underlying22 hinfo hz0 hz1 .i64 .i64 _ _ n rfl rfl ?hL ?hC b2 b3 (Nat.le_refl _) ?_)
  case hL => simp
  case hC => simp
  intro w3 hown hgr
  have HB3 := Lib.hid (HB2.out.trans (((Below.refl w2.heap.size w2).grown hgr (Nat.le_refl _) (fun k hk => by cases hk)).mono HB2.out.size))
  have HO := Lib.hid (OC.made (g := w2.heap.size) hown)
  have hgl := HB2.out.size
  obtain ⟨g, hg⟩ : ∃ g, w2.heap.size = g := ⟨_, rfl⟩
  rw [hg] at HO hgl ⊢
  clear hown hgr b2 b3 hg
  go_wp2_with fail
  go_loopw [28, 7] (fun iv _ wr => ∃ i : Nat, i ≤ n ∧ iv = .int .i64 i ∧ Below w.heap.size w wr ∧ OC wr g g n n (fun k => if k < i then nd ys (nd zs k) else 0)) (fun iv _ _ => n - (intOf iv).toNat)
  case atStart => exact ⟨0, Nat.zero_le _, rfl, HB3.out, HO.out.congr (fun k _ => by rw [if_neg (by omega)])⟩
  case round =>
    clear HB3 HO
    obtain ⟨i, hi, rfl, hbel, ho⟩ := hrel
    by_cases hlt : i < n
    · obtain ⟨hx1, hx2⟩ := HND.out i hlt
      have hy1 := HND2.out _ hx2
      obtain ⟨b, off, rfl, hb, hc⟩ := HOP.out i hlt
      obtain ⟨b', off', rfl, hb', hc'⟩ := HOP2.out i hlt
      have cx := (World.cell?_of_block (hbel.block b hb)).trans (hc i hlt)
      have cy := (World.cell?_of_block (hbel.block b' hb')).trans (hc' _ hx2)
      rw [hx1] at cx
      rw [hy1] at cy
      have co := ho.get i hlt
      have cf := ho.frozen i
      have HST := Lib.hid (ho.set i (nd ys (nd zs i)))
      have HBS := Lib.hid (hbel.setCell (show w.heap.size ≤ (⟨g, i, none⟩ : Addr).block from hgl) (.int .i64 (nd ys (nd zs i) : Nat)))
      clear ho hbel hc hc' hx1 hy1
      have HYY : Hid (∃ y, nd ys (nd zs i) = y ∧ ∀ j, j = i → nd ys (nd zs j) = y) := ⟨_, rfl, fun j h => by rw [h]⟩
      obtain ⟨y, hyy, hyf⟩ := HYY.out
      rw [hyy] at HST HBS cy
      have HF := Lib.hid hyf
      clear hyy hyf HYY
      generalize nd zs i = x at *
      go_wp2_with fail
      exact ⟨⟨i + 1, by omega, by go_num, HBS.out, HST.out.congr (fun k _ => step_if (F := fun k => nd ys (nd zs k)) (G := fun _ => 0) (HF.out i rfl) k)⟩, by simp [intOf]; omega⟩
    · obtain rfl : i = n := by omega
      have HR3 := Lib.hid (ho.congr (f' := fun k => nd ys (nd zs k)) (fun k hk => by rw [if_pos hk])).rd
      have HBE := Lib.hid hbel
      clear ho hbel
      go_wp2_with fail
      go_ret2
      exact ⟨HBE.out, _, rfl, HR3.out⟩
/-- Where f has the value x, below n. -/
def inv (f : Nat → Nat) : Nat → Nat → Nat
  | 0, _ => 0
  | n + 1, x => if x = f n then n else inv f n x
theorem inv_at {f : Nat → Nat} : ∀ {n k : Nat}, (∀ i j, i < n → j < n → f i = f j → i = j) → k < n → inv f n (f k) = k
  | n + 1, k, h, hk => by
    rw [inv]
    by_cases e : f k = f n
    · rw [if_pos e]; exact h n k (by omega) hk e.symm
    · rw [if_neg e]
      have : k ≠ n := fun h => e (by rw [h])
      exact inv_at (fun i j hi hj => h i j (by omega) (by omega)) (by omega)
theorem inv_lt {f : Nat → Nat} : ∀ {n x : Nat}, 0 < n → inv f n x < n
  | n + 1, x, _ => by
    rw [inv]
    split
    · omega
    · rcases Nat.eq_zero_or_pos n with h | h
      · subst h; simp [inv]
      · have := inv_lt (f := f) (x := x) h; omega
theorem back_bad (v : Value) (zs : List Int) (w : World) (h : Rd w v zs) (hno : ¬ OkP zs) :
    Calls Try.prog 13 #[v] w fun e w' => Below w.heap.size w w' ∧ e = .returned (.tuple #[.slice none 0 0, .int .i64 1]) := by
  have HR := Lib.hid (fun w h => right_any v zs w h)
  rw [decide_eq_false hno] at HR
  have H1 := Lib.hid h
  clear h hno
  go_enter Try.func13, Try.ntmps13
  go_wp2_with fail
  refine (HR.out _ H1.out).mono ?_
  rintro e w1 ⟨rfl, hb1⟩
  have HB1 := Lib.hid hb1
  clear hb1
  go_wp2_with fail
  go_ret2
  exact ⟨HB1.out, rfl⟩
set_option maxHeartbeats 1600000 in
theorem back_ok (v : Value) (zs : List Int) (w : World) (h : Rd w v zs) (k1 : OkP zs) :
    Calls Try.prog 13 #[v] w fun e w' => Below w.heap.size w w' ∧ ∃ u, e = .returned (.tuple #[u, .int .i64 0]) ∧ Rd w' u (tabI zs.length (inv (nd zs) zs.length)) := by
  obtain ⟨i0, hinfo, hz0, hz1, hz2⟩ := info_parts Try.info3t
  have HR := Lib.hid (fun w h => right_any v zs w h)
  rw [decide_eq_true k1] at HR
  have H1 := Lib.hid h
  have hn := k1.1
  obtain ⟨a, cap, rfl, hlc, hcm, hop⟩ := h.open
  have HOP := Lib.hid hop
  have HND : Hid (∀ k, k < zs.length → zs.getD k 0 = (nd zs k : Int) ∧ nd zs k < zs.length) := fun k hk => ⟨k1.nd hk, k1.lt hk⟩
  generalize zs.length = n at *
  clear h hop k1
  go_enter Try.func13, Try.ntmps13
  go_wp2_with fail
  refine (HR.out _ H1.out).mono ?_
  rintro e w2 ⟨rfl, hb2⟩
  have HB2 := Lib.hid hb2
  have b2 : i0.bytes * n ≤ 281474976710656 := by rw [hz2]; omega
  have b3 : n ≤ maxLen := by unfold maxLen; omega
  clear hb2
  go_wp2_with (refine wpList_make_full _ rfl _ _ 22 rfl w2.heap.size 3 i0 (.int .i64 0) 1 Try.underlying22 hinfo hz0 hz1 .i64 .i64 _ _ n rfl rfl ?hL ?hC b2 b3 (Nat.le_refl _) ?_)
  case hL => simp
  case hC => simp
  intro w3 hown hgr
  have HB3 := Lib.hid (HB2.out.trans (((Below.refl w2.heap.size w2).grown hgr (Nat.le_refl _) (fun k hk => by cases hk)).mono HB2.out.size))
  have HO := Lib.hid (OC.made (g := w2.heap.size) hown)
  have hgl := HB2.out.size
  obtain ⟨g, hg⟩ : ∃ g, w2.heap.size = g := ⟨_, rfl⟩
  rw [hg] at HO hgl ⊢
  clear hown hgr b2 b3 hg
  go_wp2_with fail
  go_loopw [15, 5, 6] (fun iv _ _ wr => ∃ i : Nat, i ≤ n ∧ iv = .int .i64 i ∧ Below w.heap.size w wr ∧ OC wr g g n n (inv (nd zs) i)) (fun iv _ _ _ => n - (intOf iv).toNat)
  case atStart => exact ⟨0, Nat.zero_le _, rfl, HB3.out, HO.out⟩
  case round =>
    clear HB3 HO
    obtain ⟨i, hi, rfl, hbel, ho⟩ := hrel
    by_cases hlt : i < n
    · obtain ⟨hx1, hx2⟩ := HND.out i hlt
      obtain ⟨b, off, rfl, hb, hc⟩ := HOP.out i hlt
      have cx := (World.cell?_of_block (hbel.block b hb)).trans (hc i hlt)
      rw [hx1] at cx
      have co := ho.get _ hx2
      have cf := ho.frozen (nd zs i)
      have HST := Lib.hid (ho.set (nd zs i) i)
      have HBS := Lib.hid (hbel.setCell (show w.heap.size ≤ (⟨g, nd zs i, none⟩ : Addr).block from hgl) (.int .i64 (i : Nat)))
      have HF : Hid (∀ x, (if x = nd zs i then i else inv (nd zs) i x) = inv (nd zs) (i + 1) x) := fun x => rfl
      clear ho hbel hc hx1
      generalize inv (nd zs) i = F at *
      generalize nd zs i = x at *
      go_wp2_with fail
      exact ⟨⟨i + 1, by omega, by go_num, HBS.out, HST.out.congr (fun k _ => HF.out k)⟩, by simp [intOf]; omega⟩
    · obtain rfl : i = n := by omega
      have HR3 := Lib.hid ho.rd
      have HBE := Lib.hid hbel
      clear ho hbel
      go_wp2_with fail
      go_ret2
      exact ⟨HBE.out, _, rfl, HR3.out⟩
end Go.Proofs.Ythnalgkojoeniaa
