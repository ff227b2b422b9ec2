/- The walk of BenchMore. Condition: the listed variables as they are laid; short texts. -/
import Derived.Test.YtbhoagabbehafaaDoorAl
set_option linter.unusedSimpArgs false
set_option linter.unusedVariables false
namespace Go.Proofs.YtbhoagabbehafaaDoor
open Go.RowKit
/-- What Tell answers, in short. -/
def TellS (w w' : World) (e : Ending) (t : List UInt8) : Prop :=
  (∃ k : Int, k ≠ 0 ∧ e = .returned (.tuple #[.slice none 0 0, .int .i64 k])) ∨
  (∃ (r : Nat) (l : List (Nat × Nat)) (g cap : Nat), parse t = .ok (r, l) ∧ e = .returned (.tuple #[.slice (some ⟨g, 0, none⟩) (l.length + 1) cap, .int .i64 0]) ∧ w'.ownsRow w.heap.size 9 1 (.slice (some ⟨g, 0, none⟩) (l.length + 1) cap) (l.length + 1) ((told r l).map str))
theorem tell_s (t : List UInt8) (w : World) (hT : TW w) (hl : t.length < 4294967281) :
    Calls Tryd.prog 6 #[.string ⟨t.toArray⟩] w fun e w' => Below w.heap.size w w' ∧ TellS w w' e t := by
  refine (tell_any t w hT hl).mono ?_
  rintro e w' ⟨hb, h⟩
  refine ⟨hb, ?_⟩
  cases hp : parse t with
  | error k => rw [hp] at h; exact .inl ⟨1, by decide, h⟩
  | ok rl =>
    obtain ⟨r, l⟩ := rl
    rw [hp] at h
    unfold TellP at h
    simp only at h
    split at h
    · obtain ⟨v, rfl, hv⟩ := h
      obtain ⟨g, cap, rfl⟩ := own_slice hv (Nat.succ_pos _)
      exact .inr ⟨r, l, g, cap, hp, rfl, hv⟩
    · exact .inl ⟨2, by decide, h⟩
theorem told_more {t m : List UInt8} {r r' : Nat} {l l' : List (Nat × Nat)} (h1 : parse t = .ok (r, l)) (h2 : parse (t ++ m) = .ok (r', l')) : t.count 10 = l.length + 1 ∧ l.length ≤ l'.length ∧ (told r l).take l.length = (told r' l').take l.length := by
  obtain ⟨⟨a1, a2⟩, a3⟩ := (parse_ok _ _ _).1 h1
  obtain ⟨⟨b1, b2⟩, b3⟩ := (parse_ok _ _ _).1 h2
  rw [a3] at b3
  obtain ⟨rfl, q, rfl⟩ := textT_prefix a1 b1 a2 b2 b3
  refine ⟨by rw [a3, textT_count], by rw [List.length_append]; omega, ?_⟩
  obtain ⟨s, hs⟩ := sayT_app r (0, []) l q
  unfold told
  rw [hs, List.append_assoc, List.take_append_of_le_length (by rw [sayT_len]; exact Nat.le_refl _), List.take_append_of_le_length (by rw [sayT_len]; exact Nat.le_refl _)]
set_option maxHeartbeats 1600000 in
set_option maxRecDepth 20000 in
theorem more_walk (t m : List UInt8) (w : World) (hT : TW w) (h1 : t.length ≤ 1048576) (h2 : m.length ≤ 1048576) :
    Calls Tryd.prog 3 #[.string ⟨t.toArray⟩, .string ⟨m.toArray⟩] w fun e w' => e = .returned (.bool true) ∧ Below w.heap.size w w' := by
  have HTT := Lib.hid hT
  have HA := Lib.hid (alive_any w hT)
  have q1 : (9223372036854775807 < t.length + m.length) = False := eq_false (by omega)
  clear hT
  go_enter Tryd.func3, Tryd.ntmps3
  go_wp2_with fail
  refine HA.out.mono ?_
  rintro e w1 ⟨rfl, hb1⟩
  have HB1 := Lib.hid hb1
  have HT1 := Lib.hid (tell_s t w1 (HTT.out.below hb1 (Nat.le_refl _)) (by omega))
  clear hb1
  go_wp2_with fail
  refine HT1.out.mono ?_
  rintro e w2 ⟨hb2, hs⟩
  have HB2 := Lib.hid (HB1.out.trans (hb2.mono HB1.out.size))
  have HT2 : Hid (Calls Tryd.prog 6 #[.string (⟨t.toArray⟩ ++ ⟨m.toArray⟩)] w2 fun e w' => Below w2.heap.size w2 w' ∧ TellS w2 w' e (t ++ m)) := by
    have := tell_s (t ++ m) w2 (HTT.out.below HB2.out (Nat.le_refl _)) (by rw [List.length_append]; omega)
    rw [← str_app] at this
    exact this
  clear hb2
  rcases hs with ⟨k, hk, rfl⟩ | ⟨r, l, g, cap, hp, rfl, hown⟩
  · have k1 : (k == 0) = false := by rw [beq_eq_false_iff_ne]; exact hk
    have k2 : (!k == 0) = true := by rw [k1]; rfl
    have k3 : (k = 0) = False := eq_false hk
    clear hk
    go_wp2_with fail
    refine HT2.out.mono ?_
    rintro e w3 ⟨hb3, hs⟩
    have HB3 := Lib.hid (HB2.out.trans (hb3.mono HB2.out.size))
    clear hb3
    rcases hs with ⟨k', hk', rfl⟩ | ⟨r', l', g', cap', hp', rfl, hown'⟩
    · clear hk'
      go_wp2_with fail
      go_ret
      exact ⟨rfl, HB3.out⟩
    · clear hp' hown'
      go_wp2_with fail
      go_ret
      exact ⟨rfl, HB3.out⟩
  · have HO := Lib.hid hown
    have HP := Lib.hid hp
    clear hown hp
    go_wp2_with fail
    refine HT2.out.mono ?_
    rintro e w3 ⟨hb3, hs⟩
    have HB3 := Lib.hid (HB2.out.trans (hb3.mono HB2.out.size))
    have HO3 := Lib.hid (own_below HO.out hb3 (Nat.le_refl _))
    clear hb3
    rcases hs with ⟨k', hk', rfl⟩ | ⟨r', l', g', cap', hp', rfl, hown'⟩
    · have k1 : (k' == 0) = false := by rw [beq_eq_false_iff_ne]; exact hk'
      have k2 : (!k' == 0) = true := by rw [k1]; rfl
      have k3 : (k' = 0) = False := eq_false hk'
      clear hk'
      go_wp2_with fail
      go_ret
      exact ⟨rfl, HB3.out⟩
    · obtain ⟨c1, c2, c3⟩ := told_more HP.out hp'
      have HC : Hid (∀ w, Calls Tryd.prog 7 #[.string ⟨t.toArray⟩, .string ⟨#[10]⟩] w fun e w' => e = .returned (.int .i64 ((l.length : Int) + 1)) ∧ w' = w) := fun w => by
        have := count_any t w
        rw [c1] at this
        exact this
      have HE : Hid (∀ q, Calls Tryd.prog 8 #[.slice (some ⟨g, 0, none⟩) l.length cap, .slice (some ⟨g', 0, none⟩) l.length cap'] (w3.drewN q) fun e w' => e = .returned (.bool true) ∧ ∃ q', w' = w3.drewN q') := fun q => by
        have hl1 : ((told r l).map bs).length = l.length + 1 := by rw [List.length_map, told_len]
        have hl2 : ((told r' l').map bs).length = l'.length + 1 := by rw [List.length_map, told_len]
        have hll : t.count 10 ≤ t.length := List.count_le_length
        refine (Tryd.slices_Equal_string g 0 l.length cap g' 0 l.length cap' ((told r l).map bs) ((told r' l').map bs) (w3.drewN q) (by omega) (by omega) (by omega) (by omega) (own_strs HO3.out) (own_strs hown')).mono ?_
        rintro e w' ⟨rfl, q', rfl⟩
        refine ⟨?_, q + q', by rw [World.drewN_drewN]⟩
        rw [← List.map_take, ← List.map_take, c3, decide_eq_true rfl]
      have hll : l.length ≤ 1048576 := by have hll : t.count 10 ≤ t.length := List.count_le_length; omega
      have hcap : l.length + 1 ≤ cap := by
        rcases HO3.out.2 with ⟨h, _⟩ | ⟨g1, cap1, cur, h, _, _, h5, _⟩
        · cases h
        · cases h; exact h5
      have hcap' : l'.length + 1 ≤ cap' := by
        rcases hown'.2 with ⟨h, _⟩ | ⟨g1, cap1, cur, h, _, _, h5, _⟩
        · cases h
        · cases h; exact h5
      obtain ⟨n, hn⟩ : ∃ n, l.length = n := ⟨_, rfl⟩
      obtain ⟨n', hn'⟩ : ∃ n, l'.length = n := ⟨_, rfl⟩
      rw [hn] at c2 HC HE hll hcap ⊢
      rw [hn'] at c2 hcap' ⊢
      clear c1 c3 hn hn' hp' hown'
      go_wp2_with fail
      refine (HC.out _).mono ?_
      rintro e w4 ⟨rfl, rfl⟩
      go_wp2_with fail
      have g1 : IntKind.i64.wrap ((n : Int) + 1) = (n : Int) + 1 := by rw [IntKind.wrap_i64]; omega
      have g2 : ((n' : Int) + 1 < (n : Int) + 1) = False := eq_false (by omega)
      have g3 : ((n' : Int) < (n : Int)) = False := eq_false (by omega)
      have g4 : (n' < n) = False := eq_false (by omega)
      have g5 : (n ≤ cap) = True := eq_true (by omega)
      have g6 : (n ≤ cap') = True := eq_true (by omega)
      have g7 : (cap < n) = False := eq_false (by omega)
      have g8 : (cap' < n) = False := eq_false (by omega)
      have g9 : ((n : Int) + 1 ≤ (n' : Int) + 1) = True := eq_true (by omega)
      go_quiet ((go_at_call 8; first | (with_reducible exact HE.out _)))
      go_wp2_with fail
      go_ret
      exact ⟨rfl, HB3.out.drewN _⟩
theorem benchMore.walk (t m : List UInt8) (w : World) (hT : TW w) (h1 : t.length ≤ 1048576) (h2 : m.length ≤ 1048576) :
    Calls Tryd.prog 3 #[.string ⟨t.toArray⟩, .string ⟨m.toArray⟩] w fun e w' => e = .returned (.bool true) ∧ Below w.heap.size w w' := more_walk t m w hT h1 h2
end Go.Proofs.YtbhoagabbehafaaDoor
