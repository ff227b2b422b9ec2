/- The library's functions over strings, as the walks want them. Condition: the listed variables as they are laid. -/
import Derived.Test.YthaiopgmncnekaaGreatDoorShelf
import Derived.Test.YthaiopgmncnekaaGreatDoorBenchL
import Derived.Test.YthaiopgmncnekaaGreatDoorGen
set_option linter.unusedSimpArgs false
set_option linter.unusedVariables false
set_option maxRecDepth 20000
namespace Go.Proofs.YthaiopgmncnekaaGreatDoor
open Go.RowKit
theorem var_below {P : Program} {w w' : World} {B : Nat} {name : String} {cs : Array Value} (h : w.var? P name = some cs) (hb : Below B w w') (hB : w.heap.size ≤ B) : w'.var? P name = some cs := by
  unfold World.var? at h ⊢
  cases hg : P.globalNamed name with
  | none => rw [hg] at h; cases h
  | some g =>
    rw [hg] at h
    simp only [Option.bind_some] at h ⊢
    have hlt : g < w.heap.size := by
      rcases Nat.lt_or_ge g w.heap.size with h1 | h1
      · exact h1
      · rw [Array.getElem?_eq_none h1] at h; cases h
    rw [hb.block g (by omega)]
    exact h
/-- The listed variables are as they are laid. -/
def TW (w : World) : Prop := (∃ m : Int, w.cell? ⟨0, 0, none⟩ = some (.int .i64 m)) ∧ Lib.TabIs Tryz.prog w "internal/strconv.uint64pow10" .u64 Lib.pow10Tab ∧ (∃ tp p, w.var? Tryz.prog "strconv.ErrSyntax" = some #[.iface tp p]) ∧ ∃ tp p, w.var? Tryz.prog "strconv.ErrRange" = some #[.iface tp p]
theorem TW.below {w w' : World} {B : Nat} (h : TW w) (hb : Below B w w') (hB : w.heap.size ≤ B) : TW w' := by
  obtain ⟨⟨m, h1⟩, h2, ⟨tp, p, h3⟩, tp2, p2, h4⟩ := h
  refine ⟨⟨m, ?_⟩, var_below h2 hb hB, ⟨tp, p, var_below h3 hb hB⟩, tp2, p2, var_below h4 hb hB⟩
  have := World.block_lt_of_cell? w _ h1
  rw [World.cell?_of_block (hb.block 0 (by simp only at this; omega))]
  exact h1
theorem TW.drewN {w : World} (h : TW w) (n : Nat) : TW (w.drewN n) := h.below ((Below.refl w.heap.size w).drewN n) (Nat.le_refl _)
/-- A string of bytes. -/
def str (l : List UInt8) : Value := .string ⟨l.toArray⟩
theorem str_size (l : List UInt8) : (⟨l.toArray⟩ : ByteArray).size = l.length := by simp [ByteArray.size]
theorem cut_any (l : List UInt8) (w : World) (hT : TW w) (hl : l.length < 4294967281) :
    Calls Tryz.prog 29 #[.string ⟨l.toArray⟩, .string ⟨#[10]⟩] w fun e w' => (e = match cutAt 10 l with
      | some (a, d) => .returned (.tuple #[.string ⟨a.toArray⟩, .string ⟨d.toArray⟩, .bool true])
      | none => .returned (.tuple #[.string ⟨l.toArray⟩, .string ⟨#[]⟩, .bool false])) ∧ ∃ n, w' = w.drewN n := by
  obtain ⟨⟨m, h1⟩, -⟩ := hT
  refine (Tryz.strings_Cut ⟨l.toArray⟩ ⟨#[10]⟩ m w (by rw [str_size]; exact hl) h1).mono ?_
  rintro e w' ⟨rfl, hn⟩
  refine ⟨?_, hn⟩
  show Ending.returned (.tuple #[.string ⟨(Lib.cut l [10]).1.toArray⟩, .string ⟨(Lib.cut l [10]).2.1.toArray⟩, .bool (Lib.cut l [10]).2.2]) = _
  rw [lib_cut]
  cases cutAt 10 l with
  | none => rfl
  | some p => rfl
theorem split_any (l : List UInt8) (w : World) (hT : TW w) (hl : l.length < 4294967281) :
    Calls Tryz.prog 41 #[.string ⟨l.toArray⟩, .string ⟨#[32]⟩] w fun e w' => e = .returned (.slice (some ⟨w.heap.size, 0, none⟩) (l.count 32 + 1) (l.count 32 + 1)) ∧ w' = w.alloc (.cells ((words 32 (l.count 32) l).map str).toArray 9) := by
  obtain ⟨⟨m, h1⟩, -⟩ := hT
  refine (Tryz.strings_Split ⟨l.toArray⟩ ⟨#[32]⟩ m w (by rw [str_size]; exact hl) h1 (by decide)).mono ?_
  have hc : Lib.countB ⟨l.toArray⟩ ⟨#[32]⟩ = l.count 32 := by
    show Lib.count l [32] = _
    exact count_eq 32 _ l (Nat.le_refl _)
  rw [hc]
  have hd := Lib.splitB_data ⟨#[32]⟩ 0 (l.count 32) ⟨l.toArray⟩
  have hd : (Lib.splitB ⟨#[32]⟩ 0 (l.count 32) ⟨l.toArray⟩).map (·.data.toList) = words 32 (l.count 32) l := hd.trans (split_words 32 _ l)
  rintro e w' ⟨rfl, rfl⟩
  refine ⟨rfl, ?_⟩
  rw [← hd, List.map_map]
  rfl
theorem below_grow (w : World) (k : Nat) (os : Array Obj) : Below w.heap.size w (Sort.grow (w.drewN k) os) :=
  ⟨rfl, rfl, rfl, by simp, fun j hj => by rw [Sort.heap_grow_old _ _ (by simpa using hj)]; rfl⟩
theorem itoa_any (n : Int) (w : World) (hT : TW w) (h : -9223372036854775808 ≤ n ∧ n ≤ 9223372036854775807) :
    Calls Tryz.prog 22 #[.int .i64 n] w fun e w' => e = .returned (.string ⟨(Lib.itoa n).toArray⟩) ∧ Below w.heap.size w w' := by
  refine (Tryz.strconv_Itoa n h.1 h.2 w hT.2.1).mono ?_
  rintro e w' ⟨rfl, k, os, rfl⟩
  exact ⟨rfl, below_grow w k os⟩
theorem atoi_any (l : List UInt8) (w : World) (hT : TW w) (hl : l.length ≤ 4294967281) :
    Calls Tryz.prog 42 #[.string ⟨l.toArray⟩] w fun e w' => (∃ (v : Int) (er : Value), e = .returned (.tuple #[.int .i64 v, er]) ∧ ((Lib.atoiAll l = .ok v ∧ er = .nilIface) ∨ ((∀ u, Lib.atoiAll l ≠ .ok u) ∧ ∃ t p, er = .iface t p))) ∧ Below w.heap.size w w' := by
  obtain ⟨-, -, ⟨tp, p, h3⟩, tp2, p2, h4⟩ := hT
  have hs : (⟨l.toArray⟩ : ByteArray).size = l.length := str_size l
  cases h : Lib.atoiAll l with
  | ok v =>
    refine (Tryz.strconv_Atoi_ok ⟨l.toArray⟩ (by omega) v h w).mono ?_
    rintro e w' ⟨rfl, hw⟩
    refine ⟨⟨v, _, rfl, .inl ⟨rfl, rfl⟩⟩, ?_⟩
    rcases hw with rfl | ⟨t, rfl⟩
    · exact Below.refl _ _
    · exact Lib.bytesWorld_below _ _ _
  | «syntax» =>
    refine (Tryz.strconv_Atoi_syntax_var ⟨l.toArray⟩ (by omega) h tp p w h3).mono ?_
    rintro e w' ⟨N, rfl, -, -, hb⟩
    exact ⟨⟨_, _, rfl, .inr ⟨(fun u h => by cases h), _, _, rfl⟩⟩, hb⟩
  | range =>
    refine (Tryz.strconv_Atoi_range_var ⟨l.toArray⟩ (by omega) h tp2 p2 w h4).mono ?_
    rintro e w' ⟨N, rfl, -, -, hb⟩
    exact ⟨⟨_, _, rfl, .inr ⟨(fun u h => by cases h), _, _, rfl⟩⟩, hb⟩
end Go.Proofs.YthaiopgmncnekaaGreatDoor
