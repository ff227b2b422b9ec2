/- gray.Least: what it answers. No condition. -/
import Derived.Test.YtoinpfcmolkhiaaDoorBl
set_option linter.unusedSimpArgs false
set_option linter.unusedVariables false
namespace Go.Proofs.YtoinpfcmolkhiaaDoor
open Go.RowKit
/-- The row, turned: from place s on. -/
def rotf (zs : List Bool) (s i : Nat) : Bool := zs.getD ((s + i) % zs.length) false
/-- Is f ahead of g, from place i on, n places. -/
def ltb (f g : Nat → Bool) : Nat → Nat → Bool
  | _, 0 => false
  | i, n + 1 => if f i = g i then ltb f g (i + 1) n else g i
def lst (zs : List Bool) : Nat → Nat
  | 0 => 0
  | k + 1 => if ltb (rotf zs (k + 1)) (rotf zs (lst zs k)) 0 zs.length then k + 1 else lst zs k
theorem lst_le (zs : List Bool) : ∀ k, lst zs k ≤ k
  | 0 => Nat.le_refl _
  | k + 1 => by have := lst_le zs k; unfold lst; split <;> omega
theorem RdB.slice {w : World} {v : Value} {zs : List Bool} (h : RdB w v zs) : ∃ a cap, v = .slice a zs.length cap ∧ zs.length ≤ cap ∧ cap ≤ maxLen := by
  obtain ⟨a, cap, rfl, h1, h2, _⟩ := h; exact ⟨a, cap, rfl, h1, h2⟩
theorem RdB.lenEq {w : World} {a : Option Addr} {n cap : Nat} {zs : List Bool} (h : RdB w (.slice a n cap) zs) : zs.length = n ∧ n ≤ cap ∧ cap ≤ 9223372036854775807 := by
  obtain ⟨a', c', he, h1, h2, -⟩ := h.open
  injection he with _ h3 h4
  subst h3; subst h4
  exact ⟨rfl, h1, h2⟩
theorem RdB.at {w : World} {a : Option Addr} {n cap : Nat} {zs : List Bool} (h : RdB w (.slice a n cap) zs) (hn : 0 < n) :
    ∃ b off, a = some ⟨b, off, none⟩ ∧ b < w.heap.size ∧ ∀ i, i < n → w.cell? ⟨b, off + i, none⟩ = some (.bool (zs.getD i false)) := by
  obtain ⟨a', c', he, -, -, hop⟩ := h.open
  injection he with h2 h3 h4
  subst h2; subst h3
  exact hop 0 hn
set_option maxHeartbeats 800000 in
set_option maxRecDepth 20000 in
theorem least_run (a : Option Addr) (n cap : Nat) (zs : List Bool) (w : World) (h : RdB w (.slice a n cap) zs) (hn : zs.length = n) (h1 : 1 ≤ n) (h2 : n ≤ 400) :
    Calls Tryd.prog 14 #[.slice a n cap] w fun e w' => e = .returned (.tuple #[.int .i64 (lst zs (n - 1) : Nat), .int .i64 0]) ∧ Below w.heap.size w w' := by
  obtain ⟨b, off, rfl, hb, hc⟩ := h.at (by omega)
  have HC := Lib.hid hc
  have HN := Lib.hid hn
  have HLE := Lib.hid (lst_le zs)
  have HS : Hid (∀ k, lst zs (k + 1) = if ltb (rotf zs (k + 1)) (rotf zs (lst zs k)) 0 n then k + 1 else lst zs k) := fun k => by rw [← HN.out]; rfl
  have HR : Hid (∀ s i, rotf zs s i = zs.getD ((s + i) % n) false) := fun s i => by rw [← HN.out]; rfl
  have f1 : decide ((n : Int) < 1) = false := decide_eq_false (by omega)
  have f1' : decide (n < 1) = false := decide_eq_false (by omega)
  have f2 : decide (400 < (n : Int)) = false := decide_eq_false (by omega)
  have f2' : decide (400 < n) = false := decide_eq_false (by omega)
  clear hc h hn
  go_enter Tryd.func14, Tryd.ntmps14
  go_wp2_with fail
  go_loopw [4, 5] (fun bv kv wr => ∃ k : Nat, 1 ≤ k ∧ k ≤ n ∧ kv = .int .i64 k ∧ bv = .int .i64 (lst zs (k - 1) : Nat) ∧ Below w.heap.size w wr) (fun _ kv _ => n - (intOf kv).toNat)
  case atStart => exact ⟨1, by omega, by omega, rfl, rfl, Below.refl _ _⟩
  case round =>
    obtain ⟨k, hk1, hk, rfl, rfl, hbel⟩ := hrel
    have hle := HLE.out (k - 1)
    have hsk := HS.out (k - 1)
    rw [show k - 1 + 1 = k by omega] at hsk
    have HSk := Lib.hid hsk
    clear hsk
    obtain ⟨bst, hbst⟩ : ∃ bst, lst zs (k - 1) = bst := ⟨_, rfl⟩
    rw [hbst] at hle HSk ⊢
    have HBST := Lib.hid hbst
    clear hbst
    by_cases hlt : k < n
    · have hlt2 : (k : Int) < (n : Int) := by omega
      have HNX : Hid (lst zs (k + 1 - 1) = lst zs k) := rfl
      obtain ⟨wo, hwo⟩ : ∃ wo, wr = wo := ⟨_, rfl⟩
      subst hwo
      go_wp2_with fail
      go_loopw [25, 4] (fun iv bv wq => ∃ i : Nat, i ≤ n ∧ iv = .int .i64 i ∧ bv = .int .i64 bst ∧ Hid (ltb (rotf zs k) (rotf zs bst) 0 n = ltb (rotf zs k) (rotf zs bst) i (n - i)) ∧ Below w.heap.size w wq) (fun iv _ _ => n - (intOf iv).toNat)
      case atStart => exact ⟨0, Nat.zero_le _, rfl, rfl, by rw [Nat.sub_zero]; rfl, hbel⟩
      case round =>
        clear hbel
        obtain ⟨i, hi, rfl, rfl, HL, hbel⟩ := hrel
        by_cases hil : i < n
        · have hii : (i : Int) < (n : Int) := by omega
          have hl1 : (bst + i) % n < n := Nat.mod_lt _ (by omega)
          have hl2 : (k + i) % n < n := Nat.mod_lt _ (by omega)
          have c1 := HC.out _ hl1
          have c2 := HC.out _ hl2
          rw [← HR.out] at c1 c2
          have C1 : wr.cell? ⟨b, off + (bst + i) % n, none⟩ = some (.bool (rotf zs bst i)) := (World.cell?_of_block (hbel.block b hb)).trans c1
          have C2 : wr.cell? ⟨b, off + (k + i) % n, none⟩ = some (.bool (rotf zs k i)) := (World.cell?_of_block (hbel.block b hb)).trans c2
          have HST : Hid (ltb (rotf zs k) (rotf zs bst) i (n - i) = if rotf zs k i = rotf zs bst i then ltb (rotf zs k) (rotf zs bst) (i + 1) (n - (i + 1)) else rotf zs bst i) := by
            show _ = _
            rw [show n - i = (n - (i + 1)) + 1 by omega]; rfl
          generalize rotf zs bst i = x at *
          generalize rotf zs k i = y at *
          have w1 : IntKind.i64.wrap ((bst : Int) + (i : Int)) = (bst : Int) + (i : Int) := by rw [IntKind.wrap_i64]; omega
          have w2 : IntKind.i64.wrap ((k : Int) + (i : Int)) = (k : Int) + (i : Int) := by rw [IntKind.wrap_i64]; omega
          have t1 : Int.tmod ((bst : Int) + (i : Int)) (n : Int) = (((bst + i) % n : Nat) : Int) := by rw [Int.tmod_eq_emod_of_nonneg (by omega)]; rfl
          have t2 : Int.tmod ((k : Int) + (i : Int)) (n : Int) = (((k + i) % n : Nat) : Int) := by rw [Int.tmod_eq_emod_of_nonneg (by omega)]; rfl
          have n0' : ((n : Int) == 0) = false := by rw [beq_eq_false_iff_ne]; omega
          generalize (bst + i) % n = p at *
          generalize (k + i) % n = q at *
          have w3 : IntKind.i64.wrap (p : Int) = (p : Int) := by rw [IntKind.wrap_i64]; omega
          have w4 : IntKind.i64.wrap (q : Int) = (q : Int) := by rw [IntKind.wrap_i64]; omega
          have b1 : (0 ≤ (p : Int) ∧ (p : Int) < (n : Int)) = True := eq_true ⟨Int.natCast_nonneg _, Int.ofNat_lt.2 hl1⟩
          have b2 : (0 ≤ (q : Int) ∧ (q : Int) < (n : Int)) = True := eq_true ⟨Int.natCast_nonneg _, Int.ofNat_lt.2 hl2⟩
          clear c1 c2
          have HLT := Lib.hid hle
          cases x <;> cases y
          · go_wp2_with fail
            go_quiet (fail)
            go_wp2_with fail
            have hst := HST.out
            rw [if_pos (by decide)] at hst
            have HLn := Lib.hid (HL.out.trans hst)
            clear hst
            go_roundw
            case rel => exact ⟨i + 1, by omega, by go_num, rfl, HLn.out, hbel.drewN _⟩
            case measure => simp [intOf]; omega
          · have hst := HST.out
            rw [if_neg (by decide)] at hst
            have hkk : lst zs (k + 1 - 1) = bst := by rw [HNX.out, HSk.out, HL.out, hst]; rfl
            have HKK := Lib.hid hkk
            clear hst hkk
            go_wp2_with fail
            go_quiet (fail)
            go_wp2_with fail
            exact ⟨⟨k + 1, by omega, by omega, by go_num, by rw [HKK.out], hbel.drewN _⟩, by simp [intOf]; omega⟩
          · have hst := HST.out
            rw [if_neg (by decide)] at hst
            have hkk : lst zs (k + 1 - 1) = k := by rw [HNX.out, HSk.out, HL.out, hst]; rfl
            have HKK := Lib.hid hkk
            clear hst hkk
            go_wp2_with fail
            go_quiet (fail)
            go_wp2_with fail
            exact ⟨⟨k + 1, by omega, by omega, by go_num, by rw [HKK.out], hbel.drewN _⟩, by simp [intOf]; omega⟩
          · go_wp2_with fail
            go_quiet (fail)
            go_wp2_with fail
            have hst := HST.out
            rw [if_pos (by decide)] at hst
            have HLn := Lib.hid (HL.out.trans hst)
            clear hst
            go_roundw
            case rel => exact ⟨i + 1, by omega, by go_num, rfl, HLn.out, hbel.drewN _⟩
            case measure => simp [intOf]; omega
        · obtain rfl : i = n := by omega
          have hkk : lst zs (k + 1 - 1) = bst := by rw [HNX.out, HSk.out, HL.out, Nat.sub_self]; rfl
          have HKK := Lib.hid hkk
          clear hkk
          go_wp2_with fail
          exact ⟨⟨k + 1, by omega, by omega, by go_num, by rw [HKK.out], hbel⟩, by simp [intOf]; omega⟩
    · obtain rfl : k = n := by omega
      go_wp2_with fail
      go_ret2
      exact ⟨by rw [HBST.out]; rfl, hbel⟩
theorem least_err (a : Option Addr) (n cap : Nat) (zs : List Bool) (w : World) (h : n < 1 ∨ 400 < n) :
    Calls Tryd.prog 14 #[.slice a n cap] w fun e w' => e = .returned (.tuple #[.int .i64 0, .int .i64 2]) ∧ Below w.heap.size w w' := by
  rcases h with h | h
  · obtain rfl : n = 0 := by omega
    go_enter Tryd.func14, Tryd.ntmps14
    go_wp2_with fail
    go_ret2
    exact ⟨rfl, Below.refl _ _⟩
  · have f1 : decide ((n : Int) < 1) = false := decide_eq_false (by omega)
    have f1' : decide (n < 1) = false := decide_eq_false (by omega)
    have f2 : decide (400 < (n : Int)) = true := decide_eq_true (by omega)
    have f2' : decide (400 < n) = true := decide_eq_true (by omega)
    clear h
    go_enter Tryd.func14, Tryd.ntmps14
    go_wp2_with fail
    go_ret2
    exact ⟨rfl, Below.refl _ _⟩
end Go.Proofs.YtoinpfcmolkhiaaDoor
