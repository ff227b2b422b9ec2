/- (*Int).SetUint64, SetInt64, NewInt, Set: what they leave. Condition: a number fits. -/
import Derived.Test.YtidnmdfpnmahpaaBigTrim
import Derived.Test.YtidnmdfpnmahpaaStep
set_option linter.unusedSimpArgs false
set_option linter.unusedVariables false
set_option maxRecDepth 20000
namespace Go.Proofs.Ytidnmdfpnmahpaa.Big
open Go.RowKit
theorem Put.cells {w w' : World} {b m o : Nat} {ng : Bool} {v : Value} (hp : Put w w' b o ng v) (hx : Box w b m) (ho : o + 1 < m) : w'.cell? ⟨b, o, none⟩ = some (.bool ng) ∧ w'.cell? ⟨b, o + 1, none⟩ = some v := by
  obtain ⟨cs, t, hh, hs, hk⟩ := hx
  have hh' := hp.here cs t hh
  constructor
  · rw [cell_of_row _ _ _ _ _ _ hh', Array.getElem?_setIfInBounds_ne (by omega), Array.getElem?_setIfInBounds_self_of_lt (by omega)]
  · rw [cell_of_row _ _ _ _ _ _ hh', Array.getElem?_setIfInBounds_self_of_lt (by simp; omega)]
theorem Put.trim {w w1 w2 : World} {b o : Nat} {ng n2 : Bool} {v : Value} {N : Nat} (h : Put w w1 b o ng v) (h2 : PutN w1 w2 b o n2 N) : PutN w w2 b o n2 N := by
  obtain ⟨v', hp, hr⟩ := h2
  exact ⟨v', h.trans hp, hr⟩
/-- A box whose row is stored whole, then trimmed. -/
theorem trim_put (zb zo m n c : Nat) (a : Option Addr) (ng : Bool) (l : List Nat) (w w1 : World) (hB : Box w zb m) (ho : zo + 1 < m) (hp : Put w w1 zb zo ng (.slice a n c)) (h : Rd w1 (.slice a n c) (castN l)) (hw : Wd l) (hnil : a = none → n = 0 ∧ c = 0) :
    Calls Try.prog 46 #[.pointer (some ⟨zb, zo, none⟩)] w1 fun e w' => e = .returned (.pointer (some ⟨zb, zo, none⟩)) ∧ PutN w w' zb zo (sgT ng (val l)) (val l) := by
  obtain ⟨c0, c1⟩ := hp.cells hB ho
  refine (trim_any zb zo m n c a ng l w1 (hB.put hp ⟨_, _, _, rfl⟩) ho c0 c1 h hw hnil).mono ?_
  rintro e w' ⟨rfl, h2⟩
  exact ⟨rfl, hp.trim h2⟩
theorem wd2 {x y : Nat} (hx : x < 4294967296) (hy : y < 4294967296) : Wd [x, y] := fun z hz => by
  simp at hz
  rcases hz with rfl | rfl
  · exact hx
  · exact hy
set_option maxHeartbeats 800000 in
theorem setu_any (zb zo m N : Nat) (w : World) (hB : Box w zb m) (ho : zo + 1 < m) (hN : N < 18446744073709551616) :
    Calls Try.prog 41 #[.pointer (some ⟨zb, zo, none⟩), .int .u64 (N : Int)] w fun e w' => e = .returned (.pointer (some ⟨zb, zo, none⟩)) ∧ PutN w w' zb zo false N := by
  have hzl := hB.lt
  have f0 := hB.fr zo
  have f1 := hB.fr (zo + 1)
  obtain ⟨cs, t, hh, hs, hk⟩ := hB
  have HB : Hid (Box w zb m) := ⟨cs, t, hh, hs, hk⟩
  have c0 : w.cell? ⟨zb, zo, none⟩ = some cs[zo] := by rw [cell_of_row _ _ _ _ _ _ hh]; exact Array.getElem?_eq_getElem (by omega)
  have c1 : w.cell? ⟨zb, zo + 1, none⟩ = some cs[zo + 1] := by rw [cell_of_row _ _ _ _ _ _ hh]; exact Array.getElem?_eq_getElem (by omega)
  generalize cs[zo] = u0 at *
  generalize cs[zo + 1] = u1 at *
  have e1 : IntKind.u32.wrap (N : Int) = ((N % 4294967296 : Nat) : Int) := by rw [IntKind.wrap_u32]; omega
  have e2 : (N : Int) / 4294967296 = ((N / 4294967296 : Nat) : Int) := by omega
  have e3 : IntKind.u32.wrap ((N / 4294967296 : Nat) : Int) = ((N / 4294967296 : Nat) : Int) := by rw [IntKind.wrap_u32]; omega
  have hv : N % 4294967296 + 4294967296 * (N / 4294967296) = N := by omega
  have hy : N / 4294967296 < 4294967296 := by omega
  have hx : N % 4294967296 < 4294967296 := by omega
  have HT : Hid (∀ w1, Put w w1 zb zo false (.slice (some ⟨w.heap.size, 0, none⟩) 2 2) → Rd w1 (.slice (some ⟨w.heap.size, 0, none⟩) 2 2) (castN [N % 4294967296, N / 4294967296]) → Calls Try.prog 46 #[.pointer (some ⟨zb, zo, none⟩)] w1 fun e w' => e = .returned (.pointer (some ⟨zb, zo, none⟩)) ∧ PutN w w' zb zo false N) := fun w1 hp hr => by
    have := trim_put zb zo m 2 2 _ false _ w w1 ⟨cs, t, hh, hs, hk⟩ ho hp hr (wd2 hx hy) (fun e => by cases e)
    rw [show val [N % 4294967296, N / 4294967296] = N by simp only [val]; omega, show sgT false N = false by unfold sgT; split <;> rfl] at this
    exact this
  have HHH := Lib.hid hh
  clear hh hs hk hv
  generalize N % 4294967296 = x at *
  generalize N / 4294967296 = y at *
  have HRd : Hid (Rd (w.alloc (.cells #[.int .u32 (x : Int), .int .u32 (y : Int)] 67)) (.slice (some ⟨w.heap.size, 0, none⟩) 2 2) (castN [x, y])) := Rd.built w (castN [x, y]) #[.int .u32 (x : Int), .int .u32 (y : Int)] 67 rfl 2 rfl (by decide)
  go_enter Try.func41, Try.ntmps41
  go_wp2_with fail
  have hp : Put w (((w.setCell ⟨zb, zo, none⟩ (.bool false)).setCell ⟨zb, zo + 1, none⟩ (.slice (some ⟨w.heap.size, 0, none⟩) 2 2)).alloc (.cells #[.int .u32 (x : Int), .int .u32 (y : Int)] 67)) zb zo false (.slice (some ⟨w.heap.size, 0, none⟩) 2 2) :=
    (Put.mk' (Below.refl _ _) hzl zo false _ 0).post hzl ((Below.refl _ _).alloc (Nat.le_refl _) _)
  have hr : Rd (((w.setCell ⟨zb, zo, none⟩ (.bool false)).setCell ⟨zb, zo + 1, none⟩ (.slice (some ⟨w.heap.size, 0, none⟩) 2 2)).alloc (.cells #[.int .u32 (x : Int), .int .u32 (y : Int)] 67)) (.slice (some ⟨w.heap.size, 0, none⟩) 2 2) (castN [x, y]) := by
    have := Rd.built ((w.setCell ⟨zb, zo, none⟩ (.bool false)).setCell ⟨zb, zo + 1, none⟩ (.slice (some ⟨w.heap.size, 0, none⟩) 2 2)) (castN [x, y]) #[.int .u32 (x : Int), .int .u32 (y : Int)] 67 rfl 2 rfl (by decide)
    simpa using this
  refine (HT.out _ hp hr).mono ?_
  rintro e w' ⟨rfl, h2⟩
  have H2 := Lib.hid h2
  clear hp hr h2
  go_wp2_with fail
  go_ret
  exact ⟨rfl, H2.out⟩
theorem seti_any (zb zo m N : Nat) (w : World) (hB : Box w zb m) (ho : zo + 1 < m) (hN : N < 9223372036854775808) :
    Calls Try.prog 44 #[.pointer (some ⟨zb, zo, none⟩), .int .i64 (N : Int)] w fun e w' => e = .returned (.pointer (some ⟨zb, zo, none⟩)) ∧ PutN w w' zb zo false N := by
  have HS := Lib.hid (setu_any zb zo m N w hB ho (by omega))
  have q1 : decide ((N : Int) < 0) = false := decide_eq_false (by omega)
  have e1 : IntKind.u64.wrap (N : Int) = (N : Int) := by rw [IntKind.wrap_u64]; omega
  clear hB ho
  go_enter Try.func44, Try.ntmps44
  go_wp2_with fail
  refine HS.out.mono ?_
  rintro e w' ⟨rfl, h2⟩
  have H2 := Lib.hid h2
  clear h2
  go_wp2_with fail
  go_ret
  exact ⟨rfl, H2.out⟩
/-- A box of the call's own, with a number. -/
def Fresh (w w' : World) (e : Ending) (ng : Bool) (N : Nat) : Prop := ∃ B, e = .returned (.pointer (some ⟨B, 0, none⟩)) ∧ w.heap.size ≤ B ∧ Box w' B 2 ∧ NA w' B 0 ng N ∧ Below w.heap.size w w'
theorem fresh_of {w w' : World} {N : Nat} {ng : Bool} {e : Ending} (h : e = .returned (.pointer (some ⟨w.heap.size, 0, none⟩)) ∧ PutN (w.alloc (.cells #[.bool false, .slice none 0 0] 46)) w' w.heap.size 0 ng N) : Fresh w w' e ng N := by
  obtain ⟨rfl, h2⟩ := h
  have hB := Box.new w 46
  exact ⟨_, rfl, Nat.le_refl _, h2.box hB, h2.at hB (by decide), ((Below.refl w.heap.size w).alloc (Nat.le_refl _) _).trans (h2.below (Nat.le_refl _) (by simp))⟩
theorem newint_any (N : Nat) (w : World) (hN : N < 9223372036854775808) :
    Calls Try.prog 27 #[.int .i64 (N : Int)] w fun e w' => Fresh w w' e false N := by
  have HS := Lib.hid (seti_any w.heap.size 0 2 N (w.alloc (.cells #[.bool false, .slice none 0 0] 46)) (Box.new w 46) (by decide) hN)
  go_enter Try.func27, Try.ntmps27
  go_wp2_with fail
  refine HS.out.mono ?_
  rintro e w' ⟨rfl, h2⟩
  have H2 := Lib.hid h2
  clear h2
  go_wp2_with fail
  go_ret
  exact fresh_of ⟨rfl, H2.out⟩
theorem own_slc {w : World} {base size : Nat} {e : TypeId} {v : Value} {n : Nat} {xs : List Value} (h : w.ownsRow base e size v n xs) : ∃ a k, v = .slice a n k ∧ (a = none → n = 0 ∧ k = 0) := by
  rcases h.2 with ⟨rfl, h0⟩ | ⟨g, cap, cur, rfl, _⟩
  · exact ⟨none, 0, by rw [h0], fun _ => ⟨h0, rfl⟩⟩
  · exact ⟨_, _, rfl, fun h => by cases h⟩
theorem Try.info67 : (Try.prog.info? 67).map (fun i => (i.zero, i.size, i.bytes)) = some (some (.int .u32 0), 1, 4) := by kernel_rfl
set_option maxHeartbeats 1600000 in
theorem set_any (zb zo m xb xo : Nat) (nx : Bool) (X : Nat) (w : World) (hB : Box w zb m) (ho : zo + 1 < m) (hx : NA w xb xo nx X) (hne : xb ≠ zb) (hX : X < 340282366920938463463374607431768211456) :
    Calls Try.prog 43 #[.pointer (some ⟨zb, zo, none⟩), .pointer (some ⟨xb, xo, none⟩)] w fun e w' => e = .returned (.pointer (some ⟨zb, zo, none⟩)) ∧ PutN w w' zb zo nx X := by
  obtain ⟨i0, hi, hz0, hz1, hz2⟩ := info_parts Try.info67
  obtain ⟨a, c, ds, c0, c1, hrd, hcn, hv, h1, h2, h3⟩ := hx.open
  have hl4 : ds.length ≤ 4 := (len_iff hcn 4).2 (by rw [hv]; exact hX)
  have hzl := hB.lt
  have f0 := hB.fr zo
  have f1 := hB.fr (zo + 1)
  have HRD := Lib.hid hrd
  have HCN := Lib.hid hcn
  have HV := Lib.hid hv
  obtain ⟨n, hn⟩ : ∃ n, ds.length = n := ⟨_, rfl⟩
  have HN := Lib.hid hn
  rw [hn] at c1 h1 h3 hl4 HRD
  have H3 := Lib.hid h3
  obtain ⟨cs, t, hh, hs, hk⟩ := hB
  have HBX : Hid (Box w zb m) := ⟨cs, t, hh, hs, hk⟩
  have z0 : w.cell? ⟨zb, zo, none⟩ = some cs[zo] := by rw [cell_of_row _ _ _ _ _ _ hh]; exact Array.getElem?_eq_getElem (by omega)
  have z1 : w.cell? ⟨zb, zo + 1, none⟩ = some cs[zo + 1] := by rw [cell_of_row _ _ _ _ _ _ hh]; exact Array.getElem?_eq_getElem (by omega)
  generalize cs[zo] = u0 at *
  generalize cs[zo + 1] = u1 at *
  have hxl := hx.lt
  have HAFT : Hid (∀ w1, Below w.heap.size w w1 → w1.cell? ⟨xb, xo, none⟩ = some (.bool nx) ∧ w1.cell? ⟨xb, xo + 1, none⟩ = some (.slice a n c) ∧ w1.cell? ⟨zb, zo, none⟩ = some u0 ∧ w1.cell? ⟨zb, zo + 1, none⟩ = some u1 ∧ w1.frozen? ⟨zb, zo, none⟩ = false ∧ w1.frozen? ⟨zb, zo + 1, none⟩ = false) := fun w1 hb =>
    ⟨(World.cell?_of_block (hb.block _ hxl)).trans c0, (World.cell?_of_block (hb.block _ hxl)).trans c1, (World.cell?_of_block (hb.block _ hzl)).trans z0, (World.cell?_of_block (hb.block _ hzl)).trans z1, (World.frozen?_of_block (hb.block _ hzl)).trans f0, (World.frozen?_of_block (hb.block _ hzl)).trans f1⟩
  have HCS : Hid (∀ w1, Below w.heap.size w w1 → ∀ ad, a = some ad → ∀ j u, ((castN ds).map (Value.int .u32))[j]? = some u → w1.cell? (ad.add j) = some u) := fun w1 hb ad had j u hu => by
    have hj : j < n := by
      have := (List.getElem?_eq_some_iff.1 hu).1
      rw [List.length_map, castN_len] at this
      have := HN.out; omega
    obtain ⟨b, off, rfl, hb1, hc⟩ := HRD.out.at (by omega)
    cases had
    have e : (⟨b, off, none⟩ : Addr).add j = ⟨b, off + j, none⟩ := by unfold Addr.add; split <;> simp_all
    rw [e, World.cell?_of_block (hb.block b hb1), hc j hj, ← hu, List.getElem?_map]
    have hjl : j < ds.length := by rw [HN.out]; exact hj
    unfold castN
    rw [List.getElem?_map, List.getElem?_eq_getElem hjl, List.getD_eq_getElem?_getD, List.getElem?_eq_getElem hjl]
    rfl
  have HONE : Hid (∀ u ∈ (castN ds).map (Value.int .u32), u.oneCell' = true) := fun u hu => by
    obtain ⟨z, -, rfl⟩ := List.mem_map.1 hu; rfl
  have HLEN : Hid (((castN ds).map (Value.int .u32)).length = n) := by show _ = _; rw [List.length_map, castN_len, HN.out]
  have hBA : Below w.heap.size w (w.alloc (.cells #[] 67)).drew := ((Below.refl _ _).alloc (Nat.le_refl _) _).drew
  have HBA := Lib.hid hBA
  obtain ⟨a0, a1, a2, a3, a4, a5⟩ := HAFT.out _ hBA
  have HO0 : Hid (World.ownsRow (w.alloc (.cells #[] 67)).drew w.heap.size 67 1 (.slice (some ⟨w.heap.size, 0, none⟩) 0 0) 0 []) := own_drew (World.ownsRow_lit w #[] 0 (Nat.le_refl _) (by decide) rfl)
  clear hx hrd hcn hv hn h3 hh hs hk hBA
  go_enter Try.func43, Try.ntmps43
  go_wp2_with fail
  go_region_law (refine step_list rfl _ _ 44 rfl w.heap.size 67 i0 (.int .u32 0) 4 Try.underlying44 hi hz0 hz1 hz2 (by decide) rfl (.slice (some ⟨w.heap.size, 0, none⟩) 0 0) 0 [] (by rfl) HO0.out a n c ((castN ds).map (Value.int .u32)) (by rfl) HLEN.out H3.out (HCS.out _ HBA.out) HONE.out (by omega) (by simp) ?_; intro v1 w1 ho1 hg1; have hb1 : Below w.heap.size w w1 := HBA.out.grown hg1 (by simp) (fun k hk => by cases hk; exact Nat.le_refl _); obtain ⟨b0, b1, b2, b3, b4, b5⟩ := HAFT.out _ hb1; obtain ⟨va, vk, rfl, hvn⟩ := own_slc ho1)
  all_goals
    go_wp2_with fail
    go_ret
    refine ⟨rfl, .slice va n vk, Put.mk' hb1 hzl zo nx _ 0, ds, ?_, HCN.out, HV.out, fun n' c' he => ?_⟩
    · have := own_store (own_store ho1 (a := ⟨zb, zo, none⟩) hzl (.bool nx)) (a := ⟨zb, zo + 1, none⟩) hzl (.slice va n vk)
      rw [Nat.zero_add, List.nil_append] at this
      exact Rd.own this
    · injection he with h3 h4 h5
      subst h3; subst h4; subst h5
      have := hvn rfl
      omega
end Go.Proofs.Ytidnmdfpnmahpaa.Big
