/- slices.Sort at []uint64: the row in ascending order. Condition: the row within the reach. -/
import Derived.Test.YticodfdonpookaaSuPdq
set_option linter.unusedSimpArgs false
set_option linter.unusedVariables false
set_option maxRecDepth 20000
namespace Go.Proofs.Yticodfdonpookaa.Su
open Go.RowKit Go.Sort
theorem perm_all {d R : Array Int} {L : Nat} (hd : d.size = L) (hp : PermIn 0 L d R) (hs : SortedIn ltInt 0 L R) : R = (d.toList.mergeSort fun x y => decide (x ≤ y)).toArray := by
  subst hd
  have h := sorted_unique_holds swo_ltInt (fun x y h1 h2 => by simp [ltInt] at h1 h2; omega) d R hp hs
  have e : (fun x y : Int => !ltInt y x) = fun x y => decide (x ≤ y) := by
    funext x y
    by_cases h : x ≤ y
    · simp [ltInt, h]
    · simp [ltInt, h]; omega
  rw [e] at h
  rw [← h]
theorem sort_word (blk off cap : Nat) (zs : List Int) (w : World) (hH : Holds eu w blk off zs.toArray) (hb : blk < w.heap.size) (hL2 : zs.length < 4611686018427387904) :
    Calls Try.prog 32 #[.slice (some ⟨blk, off, none⟩) zs.length cap] w fun e w' => e = .returned (.tuple #[]) ∧ ∃ n os, w' = grow (putRow eu (Sort.ahead w n) blk off (zs.mergeSort fun x y => decide (x ≤ y)).toArray) os := by
  obtain ⟨L, hL⟩ : ∃ L, zs.length = L := ⟨_, rfl⟩
  have hsz : zs.toArray.size = L := by simpa using hL
  have hRW : RW w blk off L := ⟨zs.toArray, hH, hsz, hb, by omega⟩
  have hSL : SL w w blk off L zs.toArray := ⟨SU.refl hH, hsz⟩
  have HLEN : Hid (∀ W, Calls Try.prog 36 #[.int .u64 (L : Int)] W fun e w' => e = .returned (.int .i64 (Lib.bitLen L : Nat)) ∧ w' = W) := fun W => Try.bits_Len (L : Int) W (by omega) (by omega)
  have hk : Lib.bitLen L ≤ 62 := Lib.bitLen_le L 62 (by omega) (by omega)
  have HP := pdq_all blk off L cap w hRW (by omega) (L - 0) 0 L (Lib.bitLen L) zs.toArray w rfl (Nat.zero_le _) (Nat.le_refl _) (by omega) hSL (Or.inl rfl)
  have HE : Hid (∀ R, PermIn 0 L zs.toArray R → SortedIn ltInt 0 L R → R = (zs.mergeSort fun x y => decide (x ≤ y)).toArray) := fun R h1 h2 => perm_all hsz h1 h2
  generalize (zs.mergeSort fun x y => decide (x ≤ y)).toArray = Z at *
  generalize Lib.bitLen L = k at *
  have z0 : ((0 : Nat) : Int) = 0 := rfl
  rw [z0] at HP
  have HP := Lib.hid HP
  have wL : IntKind.u64.wrap (L : Int) = (L : Int) := by rw [IntKind.wrap_u64]; omega
  rw [hL]
  clear hL hH hRW hSL
  go_enter Try.func32, Try.ntmps32
  go_wp2_with fail
  refine (HLEN.out _).mono ?_
  rintro e w' ⟨rfl, rfl⟩
  go_wp2_with fail
  refine HP.out.mono ?_
  rintro e w1 ⟨rfl, R, h1, h2, h3⟩
  have HS := Lib.hid h1.1
  have HR := Lib.hid (HE.out R h2 h3)
  clear h1 h2 h3
  go_wp2_with fail
  refine bodyPost_end (results_none rfl _ _ _) rfl ⟨rfl, ?_⟩
  rw [← HR.out]
  exact HS.out
theorem ins_none (p : Option Addr) (cap : Nat) (w : World) : Calls Try.prog 50 #[.slice p 0 cap, .int .i64 0, .int .i64 0] w fun e w' => e = .returned (.tuple #[]) ∧ w' = w := by
  go_enter Try.func50, Try.ntmps50
  go_wp2_with fail
  go_loopw [6] (fun iv wr => iv = .int .i64 1 ∧ wr = w) (fun _ _ => 0)
  case atStart => exact ⟨rfl, rfl⟩
  case round =>
    obtain ⟨rfl, rfl⟩ := hrel
    go_wp2_with fail
    exact bodyPost_end (results_none rfl _ _ _) rfl ⟨rfl, rfl⟩
theorem pdq_none (p : Option Addr) (cap : Nat) (w : World) : Calls Try.prog 39 #[.slice p 0 cap, .int .i64 0, .int .i64 0, .int .i64 0] w fun e w' => e = .returned (.tuple #[]) ∧ w' = w := by
  go_enter Try.func39, Try.ntmps39
  go_wp2_with fail
  go_loopw [1, 2, 3, 8, 9] (fun xv yv lv bv pv wr => xv = .int .i64 0 ∧ yv = .int .i64 0 ∧ lv = .int .i64 0 ∧ bv = .bool true ∧ pv = .bool true ∧ wr = w) (fun _ _ _ _ _ _ => 0)
  case atStart => exact ⟨rfl, rfl, rfl, rfl, rfl, rfl⟩
  case round =>
    obtain ⟨rfl, rfl, rfl, rfl, rfl, rfl⟩ := hrel
    go_wp2_with fail
    refine (ins_none p cap _).mono ?_
    rintro e w1 ⟨rfl, rfl⟩
    go_wp2_with fail
    exact bodyPost_ret (results_none rfl _ _ _) rfl ⟨rfl, rfl⟩
theorem sort_none (p : Option Addr) (cap : Nat) (w : World) : Calls Try.prog 32 #[.slice p 0 cap] w fun e w' => e = .returned (.tuple #[]) ∧ w' = w := by
  have HLEN : Hid (∀ W, Calls Try.prog 36 #[.int .u64 0] W fun e w' => e = .returned (.int .i64 0) ∧ w' = W) := fun W => by
    have := Try.bits_Len 0 W (by omega) (by omega)
    simpa [Lib.bitLen, Lib.bitLenAux] using this
  go_enter Try.func32, Try.ntmps32
  go_wp2_with fail
  refine (HLEN.out _).mono ?_
  rintro e w' ⟨rfl, rfl⟩
  go_wp2_with fail
  refine (pdq_none p cap _).mono ?_
  rintro e w' ⟨rfl, rfl⟩
  go_wp2_with fail
  exact bodyPost_end (results_none rfl _ _ _) rfl ⟨rfl, rfl⟩
end Go.Proofs.Yticodfdonpookaa.Su
