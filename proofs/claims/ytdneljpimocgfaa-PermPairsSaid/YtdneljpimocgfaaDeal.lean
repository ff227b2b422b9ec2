/- perm.Deal: what it answers. No condition. -/
import Derived.Test.YtdneljpimocgfaaCode
import Derived.RegionTactic
import Derived.BigRegion
set_option linter.unusedSimpArgs false
set_option linter.unusedVariables false
namespace Go.Proofs.Ytdneljpimocgfaa
open Go.RowKit
def OkD (zs : List Int) : Prop := zs.length ≤ 20 ∧ ∀ k, k < zs.length → 0 ≤ zs.getD k 0 ∧ zs.getD k 0 ≤ k
def sw (f : Nat → Nat) (a b : Nat) : Nat → Nat := fun i => if i = b then f a else if i = a then f b else f i
def dl (d : Nat → Nat) (f : Nat → Nat) : Nat → (Nat → Nat)
  | 0 => f
  | m + 1 => dl d (sw f m (d m)) m
theorem dl_lt {d f : Nat → Nat} {B : Nat} : ∀ {m : Nat}, (∀ i, f i ≤ B) → ∀ i, dl d f m i ≤ B := by
  intro m
  induction m generalizing f with
  | zero => exact fun h i => h i
  | succ m ih =>
    intro h i
    exact ih (fun j => by unfold sw; split; exact h _; split; exact h _; exact h _) i
set_option maxHeartbeats 1600000 in
theorem deal_ok (v : Value) (zs : List Int) (w : World) (h : Rd w v zs) (k1 : OkD zs) :
    Calls Try.prog 8 #[v] w fun e w' => Below w.heap.size w w' ∧ ∃ u, e = .returned (.tuple #[u, .int .i64 0]) ∧ Rd w' u (tabI zs.length (dl (nd zs) (fun i => i) zs.length)) := by
  obtain ⟨i0, hinfo, hz0, hz1, hz2⟩ := info_parts Try.info3t
  have H1 := Lib.hid h
  have hn := k1.1
  obtain ⟨a, cap, rfl, hlc, hcm, hop⟩ := h.open
  have HOP := Lib.hid hop
  have HND : Hid (∀ k, k < zs.length → zs.getD k 0 = (nd zs k : Int) ∧ nd zs k ≤ k) := fun k hk => by have := k1.2 k hk; unfold nd; omega
  generalize zs.length = n at *
  have b2 : i0.bytes * n ≤ 281474976710656 := by rw [hz2]; omega
  have b3 : n ≤ maxLen := by unfold maxLen; omega
  clear h hop k1
  go_enter Try.func8, Try.ntmps8
  go_wp2_with (refine wpList_make_full _ rfl _ _ 24 rfl w.heap.size 3 i0 (.int .i64 0) 1 Try.underlying24 hinfo hz0 hz1 .i64 .i64 _ _ n rfl rfl ?hL ?hC b2 b3 (Nat.le_refl _) ?_)
  case hL => simp
  case hC => simp
  intro w3 hown hgr
  have HB3 := Lib.hid ((Below.refl w.heap.size w).grown hgr (Nat.le_refl _) (fun k hk => by cases hk))
  have HO := Lib.hid (OC.made (g := w.heap.size) hown)
  obtain ⟨g, hg⟩ : ∃ g, w.heap.size = g := ⟨_, rfl⟩
  rw [hg] at HB3 HO ⊢
  have HG := Lib.hid hg
  clear hown hgr b2 b3 hg
  go_wp2_with fail
  go_loopw [16, 5, 6] (fun iv _ _ wr => ∃ i : Nat, i ≤ n ∧ iv = .int .i64 i ∧ Below g w wr ∧ OC wr g g n n (fun k => if k < i then k else 0)) (fun iv _ _ _ => n - (intOf iv).toNat)
  case atStart => exact ⟨0, Nat.zero_le _, rfl, HB3.out, HO.out.congr (fun k _ => by rw [if_neg (by omega)])⟩
  case round =>
    clear HB3 HO
    obtain ⟨i, hi, rfl, hbel, ho⟩ := hrel
    by_cases hlt : i < n
    · obtain ⟨hx1, hx2⟩ := HND.out i hlt
      obtain ⟨b, off, rfl, hb, hc⟩ := HOP.out i hlt
      have cx := (World.cell?_of_block (hbel.block b (by rw [← HG.out]; exact hb))).trans (hc i hlt)
      rw [hx1] at cx
      have co := ho.get i hlt
      have cf := ho.frozen i
      have HST := Lib.hid (ho.set i i)
      have HBS := Lib.hid (hbel.setCell (show g ≤ (⟨g, i, none⟩ : Addr).block from Nat.le_refl _) (.int .i64 (i : Nat)))
      have f1 : decide ((i : Int) < (nd zs i : Int)) = false := decide_eq_false (by omega)
      have f2 : decide (i < nd zs i) = false := decide_eq_false (by omega)
      clear ho hbel hc hx1
      generalize nd zs i = x at *
      go_wp2_with fail
      exact ⟨⟨i + 1, by omega, by go_num, HBS.out, HST.out.congr (fun k _ => step_if (F := fun k => k) (G := fun _ => 0) rfl k)⟩, by simp [intOf]; omega⟩
    · obtain rfl : i = n := by omega
      have HO := Lib.hid (ho.congr (f' := fun k => k) (fun k hk => by rw [if_pos hk]))
      have HBE := Lib.hid hbel
      clear ho hbel
      go_wp2_with fail
      go_loopw [7] (fun kv wr => ∃ (m : Nat) (f : Nat → Nat), m ≤ i ∧ kv = .int .i64 ((m : Int) - 1) ∧ Below g w wr ∧ OC wr g g i i f ∧ Hid (dl (nd zs) (fun k => k) i = dl (nd zs) f m)) (fun kv _ => (intOf kv + 1).toNat)
      case atStart => exact ⟨i, fun k => k, Nat.le_refl _, by simp, HBE.out, HO.out, rfl⟩
      case round =>
        clear HBE HO
        obtain ⟨m, f, hm, rfl, hbel, ho, hd⟩ := hrel
        cases m with
        | zero =>
          have HR3 := Lib.hid ho.rd
          have HBE := Lib.hid hbel
          have HD := Lib.hid hd.out
          clear ho hbel hd
          go_wp2_with fail
          go_ret2
          exact ⟨by rw [HG.out]; exact HBE.out, _, rfl, by rw [HD.out, dl]; exact HR3.out⟩
        | succ m =>
          have hmi : m < i := by omega
          obtain ⟨hx1, hx2⟩ := HND.out m hmi
          obtain ⟨b, off, rfl, hb, hc⟩ := HOP.out m hmi
          have cx := (World.cell?_of_block (hbel.block b (by rw [← HG.out]; exact hb))).trans (hc m hmi)
          rw [hx1] at cx
          have hmm : ((m + 1 : Nat) : Int) - 1 = (m : Int) := by omega
          rw [hmm]
          have HD : Hid (dl (nd zs) (fun k => k) i = dl (nd zs) (sw f m (nd zs m)) m) := hd.out
          clear hd hc hx1
          obtain ⟨x, hx⟩ : ∃ x, nd zs m = x := ⟨_, rfl⟩
          rw [hx] at cx hx2 HD
          clear hx
          have cm := ho.get m hmi
          have cd' := ho.get x (by omega)
          have fm := ho.frozen m
          have fx := ho.frozen x
          have hxi : x < i := by omega
          have HST := Lib.hid ((ho.set m (f x)).set x (f m))
          have HBS := Lib.hid ((hbel.setCell (show g ≤ (⟨g, m, none⟩ : Addr).block from Nat.le_refl _) (.int .i64 (f x : Nat))).setCell (show g ≤ (⟨g, x, none⟩ : Addr).block from Nat.le_refl _) (.int .i64 (f m : Nat)))
          clear ho hbel
          have HSW : Hid (∀ k, (if k = x then f m else if k = m then f x else f k) = sw f m x k) := fun k => rfl
          by_cases hxm : x = m
          · subst hxm
            generalize f x = y at *
            go_wp2_with fail
            go_region
            clear cx cm cd' fm fx
            go_wp2_with fail
            go_roundw
            case rel => exact ⟨x, sw f x x, by omega, by go_num, HBS.out.drew, (show OC (World.setCell _ _ _) g g i i _ from HST.out).congr (fun k _ => HSW.out k), HD⟩
            case measure => simp [intOf]
          · have hne : ¬ m = x := fun h => hxm h.symm
            generalize f x = y at *
            generalize f m = z at *
            go_wp2_with fail
            go_region
            clear cx cm cd' fm fx
            go_wp2_with fail
            go_roundw
            case rel => exact ⟨m, sw f m x, by omega, by go_num, HBS.out.drew, (show OC (World.setCell _ _ _) g g i i _ from HST.out).congr (fun k _ => HSW.out k), HD⟩
            case measure => simp [intOf]
end Go.Proofs.Ytdneljpimocgfaa
