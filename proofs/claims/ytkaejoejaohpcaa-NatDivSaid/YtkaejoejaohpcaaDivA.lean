/- nat.Div of 2^64 by 3. -/
import Derived.Test.YtkaejoejaohpcaaD64
set_option linter.unusedSimpArgs false
set_option linter.unusedVariables false
namespace Go.Proofs.Ytkaejoejaohpcaa
open Go.RowKit
set_option maxHeartbeats 1600000 in
set_option maxRecDepth 20000 in
theorem div_al (b : Nat) (w : World) (h : Rd w (.slice (some ⟨b, 0, none⟩) 2 2) (castN [0, 1])) :
    Calls Try.prog 11 #[.slice (some ⟨b, 0, none⟩) 2 2, .int .u64 3] w fun e w' => Below w.heap.size w w' ∧ ∃ a c, e = .returned (.tuple #[.slice a 1 c, .int .u64 1, .int .i64 0]) := by
  obtain ⟨i0, hi0, hz0, hz1, hz2⟩ := info_parts Try.info28
  have HR1 : Hid (∀ X, Below w.heap.size w X → Calls Try.prog 15 #[.slice (some ⟨b, 0, none⟩) 2 2] X fun e w' => e = .returned (.bool true) ∧ X = w') := fun X hX => (right_any _ 2 2 [0, 1] X (h.below hX (Nat.le_refl _))).mono fun e w' ⟨h1, h2⟩ => ⟨by rw [h1]; rfl, h2⟩
  obtain ⟨b', off', he, hb, hc⟩ := h.at (by omega)
  cases he
  have HC : Hid (∀ X, Below w.heap.size w X → X.cell? ⟨b, 0, none⟩ = some (.int .u64 0) ∧ X.cell? ⟨b, 1, none⟩ = some (.int .u64 1)) := fun X hX => ⟨(World.cell?_of_block (hX.block b hb)).trans (hc 0 (by omega)), (World.cell?_of_block (hX.block b hb)).trans (hc 1 (by omega))⟩
  clear h hc hb
  go_enter Try.func11, Try.ntmps11
  go_wp2_with fail
  refine (HR1.out w (Below.refl _ _)).mono ?_
  rintro e w1 ⟨rfl, rfl⟩
  go_wp2_with (refine wpList_make_full _ rfl _ _ 22 rfl w.heap.size 28 i0 (.int .u64 0) 1 Try.underlying22 hi0 hz0 hz1 .i64 .i64 _ _ 2 rfl rfl rfl rfl ?b2 ?b3 (Nat.le_refl _) ?_)
  case b2 => rw [hz2]; omega
  case b3 => unfold maxLen; omega
  intro w4 hown hgr
  have hB4 : Below w.heap.size w w4 := (Below.refl _ _).grown hgr (Nat.le_refl _) (fun k hk => by cases hk)
  rw [zeros_castN] at hown
  have HO4 := Lib.hid hown
  have HB4 := Lib.hid hB4
  clear hown hB4 hgr HR1
  go_wp2_with fail
  obtain ⟨g, hg⟩ : ∃ g, w.heap.size = g := ⟨_, rfl⟩
  have HGE : Hid (w.heap.size ≤ g) := by show _ ≤ _; omega
  have HOg : Hid (w4.ownsRow w.heap.size 28 1 (.slice (some ⟨g, 0, none⟩) 2 2) 2 ((castN [0, 0]).map (Value.int .u64))) := by
    have := HO4.out
    rw [hg] at this ⊢
    exact this
  clear HO4
  simp only [hg]
  clear hg
  go_loopw [9, 8] (fun kv rv wr => ∃ (k : Int) (r : Nat) (o : List Nat), kv = .int .i64 k ∧ rv = .int .u64 r ∧ ((k = 1 ∧ r = 0 ∧ o = [0, 0]) ∨ (k = 0 ∧ r = 1 ∧ o = [0, 0]) ∨ (k = -1 ∧ r = 1 ∧ o = [6148914691236517205, 0])) ∧ Hid (wr.ownsRow w.heap.size 28 1 (.slice (some ⟨g, 0, none⟩) 2 2) 2 ((castN o).map (Value.int .u64))) ∧ Hid (Below w.heap.size w wr)) (fun kv _ _ => (intOf kv + 1).toNat)
  case atStart => exact ⟨1, 0, [0, 0], rfl, rfl, .inl ⟨rfl, rfl, rfl⟩, HOg.out, HB4.out⟩
  case round =>
    clear HOg HB4
    obtain ⟨k, r, o, rfl, rfl, hcase, HO, HB⟩ := hrel
    rcases hcase with ⟨rfl, rfl, rfl⟩ | ⟨rfl, rfl, rfl⟩ | ⟨rfl, rfl, rfl⟩
    · have c1 := (HC.out wr HB.out).2
      have co : wr.cell? ⟨g, 1, none⟩ = some (.int .u64 0) := own_get HO.out 1 (by omega)
      go_wp2_with fail
      refine (div64_a wr).mono ?_
      rintro e w5 ⟨rfl, hb5⟩
      have HO5 := Lib.hid (own_below HO.out hb5 (Nat.le_refl _))
      have HB5 := Lib.hid (HB.out.trans (hb5.mono HB.out.size))
      have co5 : w5.cell? ⟨g, 1, none⟩ = some (.int .u64 0) := own_get HO5.out 1 (by omega)
      have fo5 : w5.frozen? ⟨g, 1, none⟩ = false := HO5.out.frozenAt 1
      clear hb5 co c1
      go_wp2_with fail
      go_roundw
      case rel => exact ⟨0, 1, [0, 0], by go_num, rfl, .inr (.inl ⟨rfl, rfl, rfl⟩), ownN_set HO5.out 1 0, HB5.out.setCell HGE.out _⟩
      case measure => simp [intOf]
    · have c1 := (HC.out wr HB.out).1
      have co : wr.cell? ⟨g, 0, none⟩ = some (.int .u64 0) := own_get HO.out 0 (by omega)
      go_wp2_with fail
      refine (div64_b wr).mono ?_
      rintro e w5 ⟨rfl, hb5⟩
      have HO5 := Lib.hid (own_below HO.out hb5 (Nat.le_refl _))
      have HB5 := Lib.hid (HB.out.trans (hb5.mono HB.out.size))
      have co5 : w5.cell? ⟨g, 0, none⟩ = some (.int .u64 0) := own_get HO5.out 0 (by omega)
      have fo5 : w5.frozen? ⟨g, 0, none⟩ = false := HO5.out.frozenAt 0
      clear hb5 co c1
      go_wp2_with fail
      go_roundw
      case rel => exact ⟨-1, 1, [6148914691236517205, 0], by go_num, rfl, .inr (.inr ⟨rfl, rfl, rfl⟩), ownN_set HO5.out 0 6148914691236517205, HB5.out.setCell HGE.out _⟩
      case measure => simp [intOf]
    · obtain ⟨av, kv, hav, HTR⟩ := ends_any w.heap.size 2 _ [6148914691236517205, 0] wr HO.out (fun x hx => by simp at hx; omega)
      cases hav
      have HT : Hid (Calls Try.prog 19 #[.slice (some ⟨g, 0, none⟩) 2 2] wr fun e w' => ∃ a', e = .returned (.slice a' 1 1) ∧ wr = w') := HTR.mono fun e w' ⟨a', k, h1, h2, _, h3⟩ => ⟨a', by rw [h1, ← h2]; rfl, h3⟩
      clear HTR
      go_wp2_with fail
      refine HT.out.mono ?_
      rintro e w7 ⟨a', rfl, rfl⟩
      go_wp2_with fail
      go_ret3
      exact ⟨HB.out, _, _, rfl⟩
end Go.Proofs.Ytkaejoejaohpcaa
