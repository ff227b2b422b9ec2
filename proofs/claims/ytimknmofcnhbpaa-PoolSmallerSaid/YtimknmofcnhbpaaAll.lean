/- pool.All: what it answers. No condition. -/
import Derived.Test.YtimknmofcnhbpaaPoolL
import Derived.Deep.RegionHeld3
set_option linter.unusedSimpArgs false
set_option linter.unusedVariables false
namespace Go.Proofs.Ytimknmofcnhbpaa
open Go.RowKit
theorem Rd.slice {w : World} {v : Value} {zs : List Int} (h : Rd w v zs) : ∃ a k, v = .slice a zs.length k ∧ zs.length ≤ k ∧ k ≤ maxLen := by
  obtain ⟨a, cap, rfl, h1, h2, -⟩ := h
  exact ⟨_, _, rfl, h1, h2⟩
theorem Rd.at {w : World} {a : Option Addr} {n c : Nat} {zs : List Int} (h : Rd w (.slice a n c) zs) {i : Nat} (hi : i < n) : ∃ b off, a = some ⟨b, off, none⟩ ∧ b < w.heap.size ∧ w.cell? ⟨b, off + i, none⟩ = some (.int .i64 (zs.getD i 0)) := by
  obtain ⟨a', cap, he, -, -, hop⟩ := h.open
  cases he
  obtain ⟨b, off, h1, h2, h3⟩ := hop i hi
  exact ⟨b, off, h1, h2, h3 i hi⟩
theorem undrew {B : Nat} {w w' : World} (h : Below B w.drew w') : Below B w w' := ⟨h.os, h.tape, h.output, h.size, h.block⟩
/-- What pool.All hands back. -/
def allR (r : Int) (l ds : List Int) : Int := if ¬ (1 ≤ r ∧ r ≤ 400) then 2 else if l.length ≠ ds.length then 1 else allE ds l.length
def AllPost (B : Nat) (w : World) (r : Int) (l ds : List Int) (e : Ending) (w' : World) : Prop :=
  Below B w w' ∧ ((allR r l ds = 0 ∧ ∃ v', e = .returned (.tuple #[.agg #[.int .i64 r, .int .i64 l.length, v'], .int .i64 0]) ∧ Rd w' v' (allL r l ds l.length)) ∨ (allR r l ds ≠ 0 ∧ e = .returned (.tuple #[.agg #[.int .i64 0, .int .i64 0, .slice none 0 0], .int .i64 (allR r l ds)])))
set_option maxHeartbeats 1600000 in
set_option maxRecDepth 20000 in
theorem all_run (r : Int) (a1 a2 : Option Addr) (n c1 c2 : Nat) (l ds : List Int) (w : World) (h1 : Rd w (.slice a1 n c1) l) (h2 : Rd w (.slice a2 n c2) ds) (hl : l.length = n) (hl2 : ds.length = n) (hr : 1 ≤ r) (hr4 : r ≤ 400) :
    Calls Try.prog 13 #[.int .i64 r, .slice a1 n c1, .slice a2 n c2] w (AllPost w.heap.size w r l ds) := by
  have HE : Hid (allR r l ds = allE ds n) := by
    show _ = _
    unfold allR; rw [if_neg (by omega), if_neg (by omega), hl]
  have HN := Lib.hid (new_any r)
  rw [if_pos ⟨hr, hr4⟩] at HN
  have HL := Lib.hid h1
  have HD := Lib.hid h2
  have hn63 : n ≤ 9223372036854775807 := by
    obtain ⟨a, k, he, h3, h4⟩ := h1.slice
    cases he
    unfold maxLen at h4; omega
  clear h1 h2
  have HP : Hid (∀ e w', Below w.heap.size w w' → ((allE ds n = 0 ∧ ∃ v', e = .returned (.tuple #[.agg #[.int .i64 r, .int .i64 n, v'], .int .i64 0]) ∧ Rd w' v' (allL r l ds n)) ∨ (allE ds n ≠ 0 ∧ e = .returned (.tuple #[.agg #[.int .i64 0, .int .i64 0, .slice none 0 0], .int .i64 (allE ds n)]))) → AllPost w.heap.size w r l ds e w') := fun e w' hb h => by
    refine ⟨hb, ?_⟩
    rw [HE.out, hl]
    exact h
  have HLN : Hid (∀ k, ((allL r l ds k).length : Int) = min r k) := fun k => allL_len hr l ds k
  have HRP : Hid (∀ k : Nat, (k : Int) ≤ 1099511627776 → RightP r k (allL r l ds k).length) := fun k hk => ⟨hr, hr4, by omega, by omega, allL_len hr l ds k⟩
  clear hl hl2 HE hr hr4
  go_enter Try.func13, Try.ntmps13
  go_wp2_with fail
  refine (HN.out _).mono ?_
  rintro e w1 ⟨rfl, hb⟩
  have H1 := Lib.hid (((Below.refl w.heap.size w).alloc (Nat.le_refl _) (.cells #[.int .i64 0, .int .i64 0, .slice none 0 0] 27)).trans (hb.mono (by simp)))
  have A1 : Hid (BX w1 w.heap.size 0 0 (.slice none 0 0)) := (BX.new w 0 0 (.slice none 0 0)).below hb (by simp)
  have hsz : w.heap.size + 1 ≤ w1.heap.size := by have := hb.size; simp at this; omega
  clear hb
  go_wp2_with fail
  obtain ⟨P, hP⟩ : ∃ P, w1.heap.size = P := ⟨_, rfl⟩
  have HB0 : Hid (Below w.heap.size w (w1.alloc (.cells #[.int .i64 r, .int .i64 0, .slice none 0 0] 27))) := H1.out.alloc (by omega) _
  have HA0 : Hid (BX (w1.alloc (.cells #[.int .i64 r, .int .i64 0, .slice none 0 0] 27)) w.heap.size 0 0 (.slice none 0 0)) := A1.out.below ((Below.refl _ _).alloc (Nat.le_refl _) _) (by omega)
  have HP0 : Hid (BX (w1.alloc (.cells #[.int .i64 r, .int .i64 0, .slice none 0 0] 27)) P r 0 (.slice none 0 0)) := hP ▸ BX.new w1 r 0 (.slice none 0 0)
  obtain ⟨wP, hwP⟩ : ∃ wP, w1.alloc (.cells #[.int .i64 r, .int .i64 0, .slice none 0 0] 27) = wP := ⟨_, rfl⟩
  rw [hwP] at HB0 HA0 HP0
  have hszP : w.heap.size < P := by omega
  rw [hP, hwP]
  clear hwP hP H1 A1 hsz
  go_loopw [33] (fun kv wr => ∃ k : Nat, k ≤ n ∧ kv = .int .i64 k ∧ Hid (allE ds k = 0) ∧ Hid (Below w.heap.size w wr) ∧ Hid (BX wr w.heap.size 0 0 (.slice none 0 0)) ∧ ∃ hv m, Hid (BX wr P r k hv) ∧ Hid (wr.ownsRow (P + 1) 3 1 hv m ((allL r l ds k).map (Value.int .i64)))) (fun kv _ => n - (intOf kv).toNat)
  case atStart => exact ⟨0, Nat.zero_le _, rfl, rfl, HB0.out, HA0.out, _, 0, HP0.out, World.ownsRow_nil _ _ _ _⟩
  case round =>
    clear HB0 HA0 HP0
    obtain ⟨k, hk, rfl, HZ, HB, HA, hv, m, HX, HO⟩ := hrel
    have HR := Lib.hid (Rd.own HO.out)
    by_cases hlt : k < n
    · obtain ⟨b1, o1, rfl, hb1, cl⟩ := (HL.out.below HB.out (Nat.le_refl _)).at hlt
      obtain ⟨b2, o2, rfl, hb2, cd⟩ := (HD.out.below HB.out (Nat.le_refl _)).at hlt
      have d0 := HX.out.c0
      have d1 := HX.out.c1
      have d2 := HX.out.c2
      obtain ⟨ah, kh, hhv, hh1, hh2⟩ := HR.out.slice
      have hki : (k : Int) < (n : Int) := by omega
      have hPw : P < wr.heap.size := HX.out.lt
      subst hhv
      have HKL : Hid (allL r l ds (k + 1) = addL r (allL r l ds k) (l.getD k 0) (ds.getD k 0)) := rfl
      have HKE : Hid (addE k (ds.getD k 0) = 0 → allE ds (k + 1) = 0) := fun h => by
        show (if allE ds k = 0 then _ else _) = _
        rw [if_pos HZ.out]; exact h
      have HKB : Hid (addE k (ds.getD k 0) ≠ 0 → allE ds n = addE k (ds.getD k 0)) := fun h => allE_first HZ.out h hlt
      generalize l.getD k 0 = x at *
      generalize ds.getD k 0 = d at *
      have hk40 : (k : Int) ≤ 1099511627776 := by
        rcases Int.lt_or_le 1099511627776 (k : Int) with h | h
        · have := (allE_all HZ.out 1099511627776 (by omega)).1
          unfold addE at this
          rw [if_pos (by decide)] at this
          cases this
        · exact h
      by_cases he : addE k d = 0
      · have HADD : Hid (∀ w', Rd w' (.slice ah (allL r l ds k).length kh) (allL r l ds k) → Calls Try.prog 16 #[.agg #[.int .i64 r, .int .i64 k, .slice ah (allL r l ds k).length kh], .int .i64 x, .int .i64 d] w' fun e w'' => Below w'.heap.size w' w'' ∧ ∃ a2 m2 k2, e = .returned (.tuple #[.agg #[.int .i64 r, .int .i64 (k + 1), .slice a2 m2 k2], .int .i64 0]) ∧ w''.ownsRow w'.heap.size 3 1 (.slice a2 m2 k2) m2 ((allL r l ds (k + 1)).map (Value.int .i64))) := fun w' h => by
          rw [HKL.out]
          refine (add_ok r k x d _ _ w' h (HRP.out k hk40) he).mono ?_
          rintro e w'' ⟨hb, v', rfl, hr⟩
          obtain ⟨a2, k2, rfl, -⟩ := (Rd.own hr).slice
          exact ⟨hb, _, _, _, rfl, hr⟩
        clear HO m
        generalize (allL r l ds k).length = m at *
        go_wp2_with fail
        have SB : Hid (∀ w', Below wr.heap.size wr w' → w'.cell? ⟨P, 0, none⟩ = some (.int .i64 r) ∧ w'.cell? ⟨P, 1, none⟩ = some (.int .i64 k) ∧ w'.cell? ⟨P, 2, none⟩ = some (.slice ah m kh) ∧ w'.cell? ⟨b2, o2 + k, none⟩ = some (.int .i64 d)) := fun w' hb => ⟨(World.cell?_of_block (hb.block _ hPw)).trans d0, (World.cell?_of_block (hb.block _ hPw)).trans d1, (World.cell?_of_block (hb.block _ hPw)).trans d2, (World.cell?_of_block (hb.block _ hb2)).trans cd⟩
        go_region_held3 (fun w' => w'.cell? ⟨P, 0, none⟩ = some (.int .i64 r) ∧ w'.cell? ⟨P, 1, none⟩ = some (.int .i64 k) ∧ w'.cell? ⟨P, 2, none⟩ = some (.slice ah m kh) ∧ w'.cell? ⟨b2, o2 + k, none⟩ = some (.int .i64 d)) (first | exact ⟨d0, d1, d2, cd⟩ | exact SB.out _ (Below.drew (Below.refl _ _)) | exact SB.out _ (((Below.refl _ _).alloc (Nat.le_refl _) _).drew) | exact SB.out _ (by assumption) | exact SB.out _ (hB2.alloc hB2.size _) | exact SB.out _ (((hB2.setCell (by simp) _).setCell (by simp) _).setCell (by simp) _)) (first | (go_at_call 16; (with_reducible refine (HADD.out _ HR.out.drew).mono ?_); rintro e w2 ⟨hb2, a2, m2, k2, rfl, hr2⟩; (have hB2 : Below wr.heap.size wr w2 := undrew hb2)) | (go_at_call 16; (with_reducible refine (HADD.out _ (HR.out.alloc _).drew).mono ?_); rintro e w2 ⟨hb2, a2, m2, k2, rfl, hr2⟩; (have hB2 : Below wr.heap.size wr w2 := ((Below.refl wr.heap.size wr).alloc (Nat.le_refl _) _).trans ((undrew hb2).mono (by simp))); (have A := BX.below (w := (wr.alloc (.cells #[.int .i64 0, .int .i64 0, .slice none 0 0] 27)).drew) (BX.new wr 0 0 (.slice none 0 0)) hb2 (by simp)); (have e0 := A.c0); (have e1 := A.c1); (have e2 := A.c2); (have f0 := A.fr 0); (have f1 := A.fr 1); (have f2 := A.fr 2)))
        all_goals
          first
            | (have A := e0
               have hQ : wr.heap.size < w2.heap.size := by have := hb2.size; simp at this; omega
               have hPQ : ¬ P = wr.heap.size := by omega
               have hAQ : ¬ w.heap.size = wr.heap.size := by have := HA.out.lt; omega
               have N0 : BX w2 wr.heap.size 0 0 (.slice none 0 0) := BX.below (w := (wr.alloc (.cells #[.int .i64 0, .int .i64 0, .slice none 0 0] 27)).drew) (BX.new wr 0 0 (.slice none 0 0)) hb2 (by simp)
               have HN2 : Hid (BX (((w2.setCell ⟨wr.heap.size, 0, none⟩ (.int .i64 r)).setCell ⟨wr.heap.size, 1, none⟩ (.int .i64 (k + 1))).setCell ⟨wr.heap.size, 2, none⟩ (.slice a2 m2 k2)) wr.heap.size r (k + 1) (.slice a2 m2 k2)) := ((N0.set0 _).set1 _).set2 _
               have A3 : Hid (BX (((w2.setCell ⟨wr.heap.size, 0, none⟩ (.int .i64 r)).setCell ⟨wr.heap.size, 1, none⟩ (.int .i64 (k + 1))).setCell ⟨wr.heap.size, 2, none⟩ (.slice a2 m2 k2)) P r k (.slice ah m kh)) := (((HX.out.below hB2 hPw).other (Ne.symm hPQ) _).other (Ne.symm hPQ) _).other (Ne.symm hPQ) _
               have HZ2 : Hid (BX (((w2.setCell ⟨wr.heap.size, 0, none⟩ (.int .i64 r)).setCell ⟨wr.heap.size, 1, none⟩ (.int .i64 (k + 1))).setCell ⟨wr.heap.size, 2, none⟩ (.slice a2 m2 k2)) w.heap.size 0 0 (.slice none 0 0)) := (((HA.out.below hB2 HA.out.lt).other (Ne.symm hAQ) _).other (Ne.symm hAQ) _).other (Ne.symm hAQ) _
               have HR2 : Hid ((((w2.setCell ⟨wr.heap.size, 0, none⟩ (.int .i64 r)).setCell ⟨wr.heap.size, 1, none⟩ (.int .i64 (k + 1))).setCell ⟨wr.heap.size, 2, none⟩ (.slice a2 m2 k2)).ownsRow (P + 1) 3 1 (.slice a2 m2 k2) m2 ((allL r l ds (k + 1)).map (Value.int .i64))) := own_base (own_store (own_store (own_store hr2 (by simp) _) (by simp) _) (by simp) _) (by simp; omega)
               have HB2 : Hid (Below w.heap.size w (((w2.setCell ⟨wr.heap.size, 0, none⟩ (.int .i64 r)).setCell ⟨wr.heap.size, 1, none⟩ (.int .i64 (k + 1))).setCell ⟨wr.heap.size, 2, none⟩ (.slice a2 m2 k2))) := (((HB.out.trans (hB2.mono HB.out.size)).setCell (by have := HA.out.lt; simp; omega) _).setCell (by have := HA.out.lt; simp; omega) _).setCell (by have := HA.out.lt; simp; omega) _
               clear A e0 e1 e2 f0 f1 f2 N0
               generalize (((w2.setCell ⟨wr.heap.size, 0, none⟩ (.int .i64 r)).setCell ⟨wr.heap.size, 1, none⟩ (.int .i64 (k + 1))).setCell ⟨wr.heap.size, 2, none⟩ (.slice a2 m2 k2)) = wq at *
               have hqP : ¬ wr.heap.size = P := by omega
               have hqA : ¬ wr.heap.size = w.heap.size := by omega
               generalize wr.heap.size = Q at *)
            | (have A2 := BX.below (b := P) HX.out hB2 hPw
               have A3 : Hid (BX (w2.alloc (.cells #[.int .i64 r, .int .i64 (k + 1), .slice a2 m2 k2] 27)) P r k (.slice ah m kh)) := A2.below ((Below.refl _ _).alloc (Nat.le_refl _) _) A2.lt
               have HZ2 : Hid (BX (w2.alloc (.cells #[.int .i64 r, .int .i64 (k + 1), .slice a2 m2 k2] 27)) w.heap.size 0 0 (.slice none 0 0)) := (HA.out.below hB2 HA.out.lt).below ((Below.refl _ _).alloc (Nat.le_refl _) _) (HA.out.below hB2 HA.out.lt).lt
               have HN2 : Hid (BX (w2.alloc (.cells #[.int .i64 r, .int .i64 (k + 1), .slice a2 m2 k2] 27)) w2.heap.size r (k + 1) (.slice a2 m2 k2)) := BX.new _ _ _ _
               have HR2 : Hid ((w2.alloc (.cells #[.int .i64 r, .int .i64 (k + 1), .slice a2 m2 k2] 27)).ownsRow (P + 1) 3 1 (.slice a2 m2 k2) m2 ((allL r l ds (k + 1)).map (Value.int .i64))) := own_base (hr2.alloc _) (by simp; omega)
               have HB2 : Hid (Below w.heap.size w (w2.alloc (.cells #[.int .i64 r, .int .i64 (k + 1), .slice a2 m2 k2] 27))) := (HB.out.trans (hB2.mono HB.out.size)).alloc (by have := HB.out.size; have := hB2.size; omega) _
               have hqP : ¬ w2.heap.size = P := by have := A2.lt; omega
               have hqA : ¬ w2.heap.size = w.heap.size := by have := A2.lt; omega
               generalize w2.alloc (.cells #[.int .i64 r, .int .i64 (k + 1), .slice a2 m2 k2] 27) = wq at *
               generalize w2.heap.size = Q at *)
          clear hr2 hB2 hb2 SB d0 d1 d2 cd cl
          have d0 := A3.out.c0
          have d1 := A3.out.c1
          have d2 := A3.out.c2
          have g0 := A3.out.fr 0
          have g1 := A3.out.fr 1
          have g2 := A3.out.fr 2
          have e0 := HN2.out.c0
          have e1 := HN2.out.c1
          have e2 := HN2.out.c2
          have hwk : IntKind.i64.wrap ((k : Int) + 1) = (k : Int) + 1 := by rw [IntKind.wrap_i64]; omega
          go_wp2_with fail
          go_roundw
          case rel => exact ⟨k + 1, by omega, by go_num, HKE.out he, ((HB2.out.setCell (Nat.le_of_lt hszP) _).setCell (Nat.le_of_lt hszP) _).setCell (Nat.le_of_lt hszP) _, ((HZ2.out.other (Nat.ne_of_gt hszP) _).other (Nat.ne_of_gt hszP) _).other (Nat.ne_of_gt hszP) _, _, m2, (((A3.out.set0 _).set1 _).set2 _), (own_store (own_store (own_store HR2.out (Nat.lt_succ_self _) _) (Nat.lt_succ_self _) _) (Nat.lt_succ_self _) _)⟩
          case measure => simp [intOf]; omega
      · have HADD : Hid (∀ w', Calls Try.prog 16 #[.agg #[.int .i64 r, .int .i64 k, .slice ah (allL r l ds k).length kh], .int .i64 x, .int .i64 d] w' fun e w'' => e = .returned (.tuple #[.agg #[.int .i64 0, .int .i64 0, .slice none 0 0], .int .i64 (addE k d)]) ∧ Below w'.heap.size w' w'') := fun w' => add_bad r k x d _ _ _ w' (HRP.out k hk40) he
        have HAE := Lib.hid (HKB.out he)
        have q1 : ((addE k d) == 0) = false := by rw [beq_eq_false_iff_ne]; exact he
        have q2 : ((addE k d) != 0) = true := by rw [bne_iff_ne]; exact he
        have HEN := Lib.hid he
        clear he
        generalize addE k d = ec at *
        clear HO m
        generalize (allL r l ds k).length = m at *
        go_wp2_with fail
        have SB : Hid (∀ w', Below wr.heap.size wr w' → w'.cell? ⟨P, 0, none⟩ = some (.int .i64 r) ∧ w'.cell? ⟨P, 1, none⟩ = some (.int .i64 k) ∧ w'.cell? ⟨P, 2, none⟩ = some (.slice ah m kh) ∧ w'.cell? ⟨b2, o2 + k, none⟩ = some (.int .i64 d)) := fun w' hb => ⟨(World.cell?_of_block (hb.block _ hPw)).trans d0, (World.cell?_of_block (hb.block _ hPw)).trans d1, (World.cell?_of_block (hb.block _ hPw)).trans d2, (World.cell?_of_block (hb.block _ hb2)).trans cd⟩
        go_region_held3 (fun w' => w'.cell? ⟨P, 0, none⟩ = some (.int .i64 r) ∧ w'.cell? ⟨P, 1, none⟩ = some (.int .i64 k) ∧ w'.cell? ⟨P, 2, none⟩ = some (.slice ah m kh) ∧ w'.cell? ⟨b2, o2 + k, none⟩ = some (.int .i64 d)) (first | exact ⟨d0, d1, d2, cd⟩ | exact SB.out _ (Below.drew (Below.refl _ _)) | exact SB.out _ (((Below.refl _ _).alloc (Nat.le_refl _) _).drew) | exact SB.out _ (by assumption) | exact SB.out _ (hB2.alloc hB2.size _) | exact SB.out _ (((hB2.setCell (by simp) _).setCell (by simp) _).setCell (by simp) _)) (first | (go_at_call 16; (with_reducible refine (HADD.out _).mono ?_); rintro e w2 ⟨rfl, hb2⟩; (have hB2 : Below wr.heap.size wr w2 := undrew hb2)) | (go_at_call 16; (with_reducible refine (HADD.out _).mono ?_); rintro e w2 ⟨rfl, hb2⟩; (have hB2 : Below wr.heap.size wr w2 := ((Below.refl wr.heap.size wr).alloc (Nat.le_refl _) _).trans ((undrew hb2).mono (by simp))); (have A := BX.below (w := (wr.alloc (.cells #[.int .i64 0, .int .i64 0, .slice none 0 0] 27)).drew) (BX.new wr 0 0 (.slice none 0 0)) hb2 (by simp)); (have e0 := A.c0); (have e1 := A.c1); (have e2 := A.c2); (have f0 := A.fr 0); (have f1 := A.fr 1); (have f2 := A.fr 2)))
        all_goals
          first
            | (have A := e0
               have hAQ : ¬ w.heap.size = wr.heap.size := by have := HA.out.lt; omega
               have HZ2 : Hid (BX (((w2.setCell ⟨wr.heap.size, 0, none⟩ (.int .i64 0)).setCell ⟨wr.heap.size, 1, none⟩ (.int .i64 0)).setCell ⟨wr.heap.size, 2, none⟩ (.slice none 0 0)) w.heap.size 0 0 (.slice none 0 0)) := (((HA.out.below hB2 HA.out.lt).other (Ne.symm hAQ) _).other (Ne.symm hAQ) _).other (Ne.symm hAQ) _
               have HB2 : Hid (Below w.heap.size w (((w2.setCell ⟨wr.heap.size, 0, none⟩ (.int .i64 0)).setCell ⟨wr.heap.size, 1, none⟩ (.int .i64 0)).setCell ⟨wr.heap.size, 2, none⟩ (.slice none 0 0))) := (((HB.out.trans (hB2.mono HB.out.size)).setCell (by have := HA.out.lt; simp; omega) _).setCell (by have := HA.out.lt; simp; omega) _).setCell (by have := HA.out.lt; simp; omega) _
               clear A e0 e1 e2 f0 f1 f2
               generalize (((w2.setCell ⟨wr.heap.size, 0, none⟩ (.int .i64 0)).setCell ⟨wr.heap.size, 1, none⟩ (.int .i64 0)).setCell ⟨wr.heap.size, 2, none⟩ (.slice none 0 0)) = wq at *)
            | (have HZ2 : Hid (BX (w2.alloc (.cells #[.int .i64 0, .int .i64 0, .slice none 0 0] 27)) w.heap.size 0 0 (.slice none 0 0)) := (HA.out.below hB2 HA.out.lt).below ((Below.refl _ _).alloc (Nat.le_refl _) _) (HA.out.below hB2 HA.out.lt).lt
               have HB2 : Hid (Below w.heap.size w (w2.alloc (.cells #[.int .i64 0, .int .i64 0, .slice none 0 0] 27))) := (HB.out.trans (hB2.mono HB.out.size)).alloc (by have := HB.out.size; have := hB2.size; omega) _
               generalize w2.alloc (.cells #[.int .i64 0, .int .i64 0, .slice none 0 0] 27) = wq at *)
          clear hB2 hb2 SB d0 d1 d2 cd cl
          have g0 := HZ2.out.fr 0
          have g1 := HZ2.out.fr 1
          have g2 := HZ2.out.fr 2
          have e0 := HZ2.out.c0
          have e1 := HZ2.out.c1
          have e2 := HZ2.out.c2
          go_wp2_with fail
          refine bodyPost_ret (ret_pool rfl _ _ w.heap.size rfl (((HZ2.out.set0 0).set1 0).set2 (.slice none 0 0)) ⟨_, _, _, rfl⟩) rfl ?_
          exact HP.out _ _ (((HB2.out.setCell (Nat.le_refl _) _).setCell (Nat.le_refl _) _).setCell (Nat.le_refl _) _) (.inr ⟨by rw [HAE.out]; exact HEN.out, by rw [HAE.out]; rfl⟩)
    · obtain rfl : k = n := by omega
      have d0 := HX.out.c0
      have d1 := HX.out.c1
      have d2 := HX.out.c2
      have g0 := HA.out.fr 0
      have g1 := HA.out.fr 1
      have g2 := HA.out.fr 2
      have e0 := HA.out.c0
      have e1 := HA.out.c1
      have e2 := HA.out.c2
      obtain ⟨ah, kh, hhv, hh1, hh2⟩ := HR.out.slice
      subst hhv
      generalize (allL r l ds k).length = m' at *
      go_wp2_with fail
      refine bodyPost_ret (ret_pool rfl _ _ w.heap.size rfl (((HA.out.set0 r).set1 k).set2 (.slice ah m' kh)) ⟨_, _, _, rfl⟩) rfl ?_
      exact HP.out _ _ (((HB.out.setCell (Nat.le_refl _) _).setCell (Nat.le_refl _) _).setCell (Nat.le_refl _) _) (.inl ⟨HZ.out, _, rfl, Rd.own (own_store (own_store (own_store HO.out (Nat.lt_succ_of_lt hszP) _) (Nat.lt_succ_of_lt hszP) _) (Nat.lt_succ_of_lt hszP) _)⟩)
set_option maxHeartbeats 800000 in
set_option maxRecDepth 20000 in
theorem all_any (r : Int) (a1 a2 : Option Addr) (n1 n2 c1 c2 : Nat) (l ds : List Int) (w : World) (h1 : Rd w (.slice a1 n1 c1) l) (h2 : Rd w (.slice a2 n2 c2) ds) :
    Calls Try.prog 13 #[.int .i64 r, .slice a1 n1 c1, .slice a2 n2 c2] w (AllPost w.heap.size w r l ds) := by
  have hl1 : l.length = n1 := by obtain ⟨_, _, he, -⟩ := h1.slice; cases he; rfl
  have hl2 : ds.length = n2 := by obtain ⟨_, _, he, -⟩ := h2.slice; cases he; rfl
  have HN := Lib.hid (new_any r)
  by_cases hr : 1 ≤ r ∧ r ≤ 400
  · by_cases hn : n1 = n2
    · subst hn
      exact all_run r a1 a2 n1 c1 c2 l ds w h1 h2 hl1 hl2 hr.1 hr.2
    · have HE : Hid (allR r l ds = 1) := by
        show _ = _
        unfold allR; rw [if_neg (by omega), if_pos (by omega)]
      have HP : Hid (∀ e w', Below w.heap.size w w' → e = .returned (.tuple #[.agg #[.int .i64 0, .int .i64 0, .slice none 0 0], .int .i64 1]) → AllPost w.heap.size w r l ds e w') := fun e w' hb h => ⟨hb, .inr (by rw [HE.out]; exact ⟨by decide, h⟩)⟩
      rw [if_pos hr] at HN
      have q1 : ((n1 : Int) == (n2 : Int)) = false := by rw [beq_eq_false_iff_ne]; omega
      have q2 : ((n1 : Int) != (n2 : Int)) = true := by rw [bne_iff_ne]; omega
      have q3 : (n1 != n2) = true := by rw [bne_iff_ne]; exact hn
      have q4 : (n1 == n2) = false := by rw [beq_eq_false_iff_ne]; exact hn
      have H12 : n1 ≤ 9223372036854775807 ∧ n2 ≤ 9223372036854775807 := by
        obtain ⟨_, _, he, h3, h4⟩ := h1.slice
        obtain ⟨_, _, he', h3', h4'⟩ := h2.slice
        cases he; cases he'
        unfold maxLen at h4 h4'
        omega
      obtain ⟨hx1, hx2⟩ := H12
      clear hr hn hl1 hl2 h1 h2 HE
      go_enter Try.func13, Try.ntmps13
      go_wp2_with fail
      refine (HN.out _).mono ?_
      rintro e w1 ⟨rfl, hb⟩
      have H1 := Lib.hid (((Below.refl w.heap.size w).alloc (Nat.le_refl _) (.cells #[.int .i64 0, .int .i64 0, .slice none 0 0] 27)).trans (hb.mono (by simp)))
      have A1 : Hid (BX w1 w.heap.size 0 0 (.slice none 0 0)) := (BX.new w 0 0 (.slice none 0 0)).below hb (by simp)
      have hsz : w.heap.size < w1.heap.size := by have := hb.size; simp at this; omega
      clear hb
      have HA : Hid (BX (w1.alloc (.cells #[.int .i64 r, .int .i64 0, .slice none 0 0] 27)) w.heap.size 0 0 (.slice none 0 0)) := A1.out.below ((Below.refl _ _).alloc (Nat.le_refl _) _) (by omega)
      have HB : Hid (Below w.heap.size w (w1.alloc (.cells #[.int .i64 r, .int .i64 0, .slice none 0 0] 27))) := H1.out.alloc (by omega) _
      have e0 := A1.out.c0
      have e1 := A1.out.c1
      have e2 := A1.out.c2
      have f0 := A1.out.fr 0
      have f1 := A1.out.fr 1
      have f2 := A1.out.fr 2
      go_wp2_with fail
      refine bodyPost_ret (ret_pool rfl _ _ w.heap.size rfl ((((A1.out.set0 0).set1 0).set2 (.slice none 0 0)).below ((Below.refl _ _).alloc (Nat.le_refl _) _) (by simp [World.setCell]; omega)) ⟨_, _, _, rfl⟩) rfl ?_
      exact HP.out _ _ ((((H1.out.setCell (Nat.le_refl _) _).setCell (Nat.le_refl _) _).setCell (Nat.le_refl _) _).alloc (by simp [World.setCell]; omega) _) rfl
  · have HE : Hid (allR r l ds = 2) := by
      show _ = _
      unfold allR; rw [if_pos (by omega)]
    have HP : Hid (∀ e w', Below w.heap.size w w' → e = .returned (.tuple #[.agg #[.int .i64 0, .int .i64 0, .slice none 0 0], .int .i64 2]) → AllPost w.heap.size w r l ds e w') := fun e w' hb h => ⟨hb, .inr (by rw [HE.out]; exact ⟨by decide, h⟩)⟩
    rw [if_neg hr] at HN
    clear hr hl1 hl2 h1 h2 HE
    go_enter Try.func13, Try.ntmps13
    go_wp2_with fail
    refine (HN.out _).mono ?_
    rintro e w1 ⟨rfl, hb⟩
    have H1 := Lib.hid (((Below.refl w.heap.size w).alloc (Nat.le_refl _) (.cells #[.int .i64 0, .int .i64 0, .slice none 0 0] 27)).trans (hb.mono (by simp)))
    have A1 : Hid (BX w1 w.heap.size 0 0 (.slice none 0 0)) := (BX.new w 0 0 (.slice none 0 0)).below hb (by simp)
    have hsz : w.heap.size < w1.heap.size := by have := hb.size; simp at this; omega
    clear hb
    have HA : Hid (BX (w1.alloc (.cells #[.int .i64 0, .int .i64 0, .slice none 0 0] 27)) w.heap.size 0 0 (.slice none 0 0)) := A1.out.below ((Below.refl _ _).alloc (Nat.le_refl _) _) (by omega)
    have HB : Hid (Below w.heap.size w (w1.alloc (.cells #[.int .i64 0, .int .i64 0, .slice none 0 0] 27))) := H1.out.alloc (by omega) _
    have e0 := A1.out.c0
    have e1 := A1.out.c1
    have e2 := A1.out.c2
    have f0 := A1.out.fr 0
    have f1 := A1.out.fr 1
    have f2 := A1.out.fr 2
    go_wp2_with fail
    refine bodyPost_ret (ret_pool rfl _ _ w.heap.size rfl ((((A1.out.set0 0).set1 0).set2 (.slice none 0 0)).below ((Below.refl _ _).alloc (Nat.le_refl _) _) (by simp [World.setCell]; omega)) ⟨_, _, _, rfl⟩) rfl ?_
    exact HP.out _ _ ((((H1.out.setCell (Nat.le_refl _) _).setCell (Nat.le_refl _) _).setCell (Nat.le_refl _) _).alloc (by simp [World.setCell]; omega) _) rfl
end Go.Proofs.Ytimknmofcnhbpaa
