/- All draws gone through: what 'rows' does with each pool. Conditions on what is done with a pool: a premise of the lemma. -/
import Derived.Test.YtimknmofcnhbpaaMixed
import Derived.Maps.AppendAt
set_option linter.unusedSimpArgs false
set_option linter.unusedVariables false
namespace Go.Proofs.Ytimknmofcnhbpaa
open Go.RowKit
theorem push_at {P : Program} {w : World} {ops : Array Oper} {rest : List Oper} {o : Oper} {a : Act} {Q : Exit → Act → World → Prop} (hgd : o.guard = none) (s x : Operand) (t : TypeId)
    (ho : o.op = .call { callee := .builtin .append, args := #[s, x], argTypes := #[t, t] })
    (base : Nat) (e : TypeId) (i : TypeInfo) (z : Value) (bytes : Nat) (ht : P.underlying t = some (.slice e)) (hi : P.info? e = some i) (hz : i.zero = some z)
    (hsize : i.size = 1) (hby : i.bytes = bytes) (hzs : z.cells.size = 1)
    (v : Value) (n : Nat) (xs : List Value) (hs : a.eval s = v) (hown : w.ownsRow base e 1 v n xs)
    (u : Value) (b : Nat) (hx : a.eval x = .slice (some ⟨b, 0, none⟩) 1 1) (hbl : b = w.heap.size) (h1 : u.oneCell' = true)
    (hb8 : bytes ≤ 8) (h63 : n + 1 ≤ 17592186044416) (hbase : base ≤ w.heap.size)
    (h : ∀ v' w', w'.ownsRow base e 1 v' (n + 1) (xs ++ [u]) → (w.alloc (.cells #[u] e)).grownBy w' v.ownBlock → (v'.ownBlock = v.ownBlock ∨ v'.ownBlock = some (w.heap.size + 1)) → wpList P ops Q rest (a.put o.dst v') w') :
    wpList P ops Q (o :: rest) a (w.alloc (.cells #[u] e)) := by
  subst hbl
  refine wpList_append_own_at _ hgd s x t ho base e i z 1 bytes ht hi hz hsize hby hzs (by decide) v n xs hs (hown.alloc _) ⟨w.heap.size, 0, none⟩ 1 1 [u] hx rfl ?_ ?_ ?_ ?_ ?_ ?_
  · intro j u' hj
    match j, hj with
    | 0, hj => simp at hj; subst hj; simp [Addr.add]
  · intro u' hu'; simp at hu'; subst hu'; exact h1
  · unfold maxLen; omega
  · have := Nat.mul_le_mul (Nat.le_refl (n + 1)) hb8; omega
  · simp; omega
  · intro v' w' ho' hg _ hat; exact h v' w' ho' hg (by simpa using hat)
/-- Blocks from B on stay. -/
structure FR (B : Nat) (w w' : World) : Prop where
  os : w'.os = w.os
  tape : w'.tape = w.tape
  output : w'.output = w.output
  size : w.heap.size ≤ w'.heap.size
  block : ∀ i, B ≤ i → i < w.heap.size → w'.heap[i]? = w.heap[i]?
theorem own_fr {w w' : World} {B n : Nat} {e : TypeId} {v : Value} {xs : List Value} (h : w.ownsRow B e 1 v n xs) (hb : ∀ i, B ≤ i → i < w.heap.size → w'.heap[i]? = w.heap[i]?) : w'.ownsRow B e 1 v n xs := by
  refine ⟨h.1, ?_⟩
  rcases h.2 with hn | ⟨g, cap, cur, rfl, hbs, hgg, rest⟩
  · exact .inl hn
  · exact .inr ⟨g, cap, cur, rfl, hbs, (hb g hbs (Array.getElem?_eq_some_iff.1 hgg).1).trans hgg, rest⟩
def iota1 (n : Nat) : List Nat := (List.range n).map (· + 1)
def fac : Nat → Nat
  | 0 => 1
  | n + 1 => fac n * (n + 1)
theorem fac_le {k : Nat} (h : k ≤ 6) : fac k ≤ 720 := by
  have : ∀ k, k ≤ 6 → fac k ≤ 720 := by decide
  exact this k h
/-- Who is kept at the x-th list of draws. -/
def poolN (r n x : Nat) : List Int := allL r (castL (List.range n)) (castL (mixF x (iota1 n))) n
theorem draws_ok : ∀ n, n ≤ 6 → ∀ x, x < fac n → allE (castL (mixF x (iota1 n))) n = 0 ∧ (mixF x (iota1 n)).length = n := by
  decide +kernel
set_option maxHeartbeats 1600000 in
set_option maxRecDepth 20000 in
theorem rows_ok (F : Nat) (hF : F = 9 ∨ F = 10) (cs : Array Value) (Inv : Nat → World → Prop) (r n : Nat) (w : World) (h1 : 1 ≤ r) (h2 : r ≤ n) (h3 : n ≤ 6)
    (hK : ∀ j w1 w2, Inv j w1 → Below w.heap.size w1 w2 → Inv j w2)
    (hL : ∀ j w1 hv, j < fac n → Inv j w1 → w.heap.size ≤ w1.heap.size → Rd w1 hv (poolN r n j) → Calls Try.prog F (#[.agg #[.int .i64 r, .int .i64 n, hv]] ++ cs) w1 fun e w' => e = .returned (.tuple #[]) ∧ Inv (j + 1) w' ∧ FR w.heap.size w1 w')
    (h0 : Inv 0 w) :
    Calls Try.prog 8 #[.int .i64 r, .int .i64 n, .func (.func F) #[] cs] w fun e w' => e = .returned (.bool true) ∧ Inv (fac n) w' ∧ w.heap.size ≤ w'.heap.size := by
  obtain ⟨i3, hi3, hz0, hz1, hz2⟩ := info_parts Try.info3
  have HK := Lib.hid hK
  have HL := Lib.hid hL
  have H0 := Lib.hid h0
  clear hK hL h0
  have HI0 : Hid (iota1 0 = []) := rfl
  have HIS : Hid (∀ k, iota1 (k + 1) = iota1 k ++ [k + 1]) := fun k => by unfold iota1; rw [List.range_succ, List.map_append]; rfl
  have HFS : Hid (∀ k, fac (k + 1) = fac k * (k + 1)) := fun k => rfl
  have HFL : Hid (∀ k, k ≤ 6 → fac k ≤ 720) := fun k h => fac_le h
  go_enter Try.func8, Try.ntmps8
  go_wp2_with fail
  go_loopw [15, 7, 8, 9] (fun kv bv lv av wr => ∃ k a : Nat, k ≤ n ∧ kv = .int .i64 k ∧ av = .int .i64 a ∧ a ≤ 720 ∧ Hid (a = fac k) ∧ Hid (Below w.heap.size w wr) ∧ Hid (wr.ownsRow w.heap.size 3 1 bv k ((castL (iota1 k)).map (Value.int .i64))) ∧ Hid (wr.ownsRow w.heap.size 3 1 lv k ((castL (List.range k)).map (Value.int .i64))) ∧ Hid (∀ g, bv.ownBlock = some g → lv.ownBlock ≠ some g)) (fun kv _ _ _ _ => n - (intOf kv).toNat)
  case atStart => exact ⟨0, 1, Nat.zero_le _, rfl, rfl, by decide, rfl, Below.refl _ _, World.ownsRow_nil _ _ _ _, World.ownsRow_nil _ _ _ _, fun g hg => by cases hg⟩
  case round =>
    obtain ⟨k, a, hkn, rfl, rfl, ha, HA, HB, HO1, HO2, HNE⟩ := hrel
    by_cases hlt : k < n
    · have hki : (k : Int) < n := by omega
      have hs1 := HB.out.size
      have hwk : IntKind.i64.wrap ((k : Int) + 1) = (k : Int) + 1 := by rw [IntKind.wrap_i64]; omega
      go_wp2_with (at_builtin; go_must (refine push_at rfl _ _ 25 rfl w.heap.size 3 i3 (.int .i64 0) 8 Try.underlying25 hi3 hz0 hz1 hz2 rfl _ k ((castL (iota1 k)).map (Value.int .i64)) rfl HO1.out (.int .i64 ((k : Int) + 1)) wr.heap.size rfl rfl rfl (by decide) (by omega) hs1 ?_))
      intro v2 w2 ho2 hg2 hat2
      have HB2 := Lib.hid (grown_below hg2 HO1.out HB.out (Nat.le_refl _) hs1)
      have HO2' : Hid (w2.ownsRow w.heap.size 3 1 u8 k ((castL (List.range k)).map (Value.int .i64))) := by
        refine World.ownsRow.kept (HO2.out.alloc _) hg2 ?_
        rcases hlb : Value.ownBlock u8 with _ | g
        · exact .inl rfl
        · exact .inr (fun h => HNE.out g h.symm hlb)
      have HLT1 : Hid (∀ g, Value.ownBlock u7 = some g → g < wr.heap.size) := fun g hg => (HO1.out.lt g hg).2
      have HLT2 : Hid (∀ g, Value.ownBlock u8 = some g → g < wr.heap.size) := fun g hg => (HO2.out.lt g hg).2
      have HO1' : Hid (w2.ownsRow w.heap.size 3 1 v2 (k + 1) ((castL (iota1 (k + 1))).map (Value.int .i64))) := by rw [HIS.out, castL_app, List.map_append]; exact ho2
      have HAT := Lib.hid hat2
      have hsz2 := grown_size hg2
      have HSZ2 := Lib.hid hsz2
      have hs2 := HB2.out.size
      clear ho2 hg2 hat2 hsz2
      go_wp2_with (at_builtin; go_must (refine push_at rfl _ _ 25 rfl w.heap.size 3 i3 (.int .i64 0) 8 Try.underlying25 hi3 hz0 hz1 hz2 rfl _ k ((castL (List.range k)).map (Value.int .i64)) rfl HO2'.out (.int .i64 k) w2.heap.size rfl rfl rfl (by decide) (by omega) hs2 ?_))
      intro v3 w3 ho3 hg3 hat3
      have HB3 := Lib.hid (grown_below hg3 HO2'.out HB2.out (Nat.le_refl _) hs2)
      have HO1'' : Hid (w3.ownsRow w.heap.size 3 1 v2 (k + 1) ((castL (iota1 (k + 1))).map (Value.int .i64))) := by
        refine World.ownsRow.kept (HO1'.out.alloc _) hg3 ?_
        rcases hlb : v2.ownBlock with _ | g
        · exact .inl rfl
        · refine .inr (fun h => ?_)
          rcases HAT.out with e | e
          · exact HNE.out g (by rw [← e]; exact hlb) h.symm
          · rw [hlb] at e; cases e
            have := HLT2.out _ h.symm
            omega
      have HO3 : Hid (w3.ownsRow w.heap.size 3 1 v3 (k + 1) ((castL (List.range (k + 1))).map (Value.int .i64))) := by rw [List.range_succ, castL_app, List.map_append]; exact ho3
      have HNE3 : Hid (∀ g, v2.ownBlock = some g → v3.ownBlock ≠ some g) := fun g hg hv => by
        have hz := HSZ2.out
        rcases HAT.out with e | e
        · rw [e] at hg
          rcases hat3 with e' | e'
          · rw [e'] at hv; exact HNE.out g hg hv
          · rw [e'] at hv; cases hv
            have := HLT1.out _ hg
            omega
        · rw [e] at hg; cases hg
          rcases hat3 with e' | e'
          · rw [e'] at hv
            have := HLT2.out _ hv
            omega
          · rw [e'] at hv
            injection hv with hv
            omega
      have hfk := HFS.out k
      rw [← HA.out] at hfk
      have hf2 := HFL.out (k + 1) (by omega)
      rw [hfk] at hf2
      have HFK := Lib.hid hfk
      obtain ⟨p, hp⟩ : ∃ p : Nat, a * (k + 1) = p := ⟨_, rfl⟩
      rw [hp] at hf2 HFK
      have hpp : (a : Int) * ((k : Int) + 1) = (p : Int) := by rw [← hp]; simp
      clear ho3 hg3 hat3 hfk hp hs1 hs2
      go_wp2_with fail
      go_roundw
      case rel => exact ⟨k + 1, p, by omega, by go_num, rfl, hf2, HFK.out.symm, HB3.out, HO1''.out, HO3.out, HNE3.out⟩
      case measure => simp [intOf]; omega
    · obtain rfl : k = n := by omega
      obtain ⟨ab, kb, rfl⟩ := own_slice HO1.out
      obtain ⟨al, kl, rfl⟩ := own_slice HO2.out
      have HI := Lib.hid (HK.out 0 _ _ H0.out HB.out)
      have HSW := Lib.hid HB.out.size
      obtain ⟨wq, rfl⟩ : ∃ wq : World, wq = wr := ⟨_, rfl⟩
      have HNF : Hid (∀ x, x < a → allE (castL (mixF x (iota1 k))) k = 0 ∧ (mixF x (iota1 k)).length = k) := fun x hx => draws_ok k h3 x (by rw [← HA.out]; exact hx)
      have HLL : Hid (∀ x wq', x < a → Inv x wq' → w.heap.size ≤ wq'.heap.size → ∀ hv, Rd wq' hv (poolN r k x) → Calls Try.prog F (#[.agg #[.int .i64 r, .int .i64 k, hv]] ++ cs) wq' fun e w' => e = .returned (.tuple #[]) ∧ Inv (x + 1) w' ∧ FR w.heap.size wq' w') := fun x wq' hx hi hs hv hr => HL.out x wq' hv (by rw [← HA.out]; exact hx) hi hs hr
      have HIO : Hid ((iota1 k).length = k) := by show _ = _; unfold iota1; simp
      have hr4 : (r : Int) ≤ 400 := by omega
      have hr1 : (1 : Int) ≤ r := by omega
      go_wp2_with fail
      go_loopw [33] (fun xv wr => ∃ x : Nat, x ≤ a ∧ xv = .int .i64 x ∧ Hid (Inv x wr) ∧ Hid (wq.heap.size ≤ wr.heap.size) ∧ Hid (∀ i, w.heap.size ≤ i → i < wq.heap.size → wr.heap[i]? = wq.heap[i]?)) (fun xv _ => a - (intOf xv).toNat)
      case atStart => exact ⟨0, Nat.zero_le _, rfl, HI.out, Nat.le_refl _, fun _ _ _ => rfl⟩
      case round =>
        obtain ⟨x, hxa, rfl, HIx, HSx, HBx⟩ := hrel
        by_cases hxl : x < a
        · have HOb := Lib.hid (own_fr HO1.out HBx.out)
          have HOl := Lib.hid (own_fr HO2.out HBx.out)
          obtain ⟨hE, hml⟩ := HNF.out x hxl
          have HEx := Lib.hid hE
          have HML := Lib.hid hml
          have hxi : (x : Int) < (a : Int) := by omega
          clear hE hml
          go_wp2_with fail
          refine (mixed_ok x (iota1 k) _ _ (Rd.own HOb.out) (by omega) (by unfold iota1; simp) (by rw [HIO.out]; omega) (by unfold iota1; simp; omega)).mono ?_
          rintro e w2 ⟨hb2, v2, rfl, ho2⟩
          have HB2 := Lib.hid hb2
          have HOl2 := Lib.hid (Rd.own (own_below HOl.out hb2 (Nat.le_refl _)))
          have HOm := Lib.hid (Rd.own ho2)
          rw [HIO.out] at ho2
          obtain ⟨am, km, rfl⟩ := own_slice ho2
          clear hb2 ho2
          go_wp2_with fail
          refine (all_any r _ _ _ _ _ _ _ _ _ HOl2.out HOm.out).mono ?_
          rintro e w3 ⟨hb3, hp⟩
          have HR0 : allR r (castL (List.range k)) (castL (mixF x (iota1 k))) = 0 := by
            rw [allR_run ⟨hr1, hr4⟩ (by rw [castL_len, castL_len, HML.out, List.length_range]), castL_len, List.length_range]
            exact HEx.out
          have HCL : (castL (List.range k)).length = k := by rw [castL_len, List.length_range]
          rw [HR0, HCL] at hp
          rcases hp with ⟨-, v3, rfl, hr3⟩ | ⟨h, -⟩
          · obtain ⟨a3, k3, rfl, -⟩ := hr3.slice
            have HB3 := Lib.hid (HB2.out.trans (hb3.mono HB2.out.size))
            have HR3 : Hid (Rd w3 (.slice a3 (allL r (castL (List.range k)) (castL (mixF x (iota1 k))) k).length k3) (poolN r k x)) := hr3
            have hs3 := hb3.size
            clear hb3 hr3 HR0 HCL
            generalize (allL r (castL (List.range k)) (castL (mixF x (iota1 k))) k).length = m3 at *
            go_wp2_with fail
            have HRw : Hid (Rd (w3.alloc (.cells #[.int .i64 r, .int .i64 k, .slice a3 m3 k3] 27)) (.slice a3 m3 k3) (poolN r k x)) := HR3.out.alloc _
            have HBw : Hid (Below wr.heap.size wr (w3.alloc (.cells #[.int .i64 r, .int .i64 k, .slice a3 m3 k3] 27))) := HB3.out.alloc HB3.out.size _
            generalize w3.alloc (.cells #[.int .i64 r, .int .i64 k, .slice a3 m3 k3] 27) = w4 at *
            have HSz : Hid (w.heap.size ≤ w4.heap.size) := by have h1 := HSW.out; have h2 := HSx.out; have h3 := HBw.out.size; show _ ≤ _; omega
            have HI4 := Lib.hid (HK.out _ _ _ HIx.out (HBw.out.mono (by have h1 := HSW.out; have h2 := HSx.out; omega)))
            rcases hF with rfl | rfl
            all_goals
              go_wp2_with fail
              refine (HLL.out x w4 hxl HI4.out HSz.out _ HRw.out).mono ?_
              rintro e w5 ⟨rfl, hi5, hf5⟩
              have HI5 := Lib.hid hi5
              have HS5 : Hid (wq.heap.size ≤ w5.heap.size) := by have h1 := HSx.out; have h2 := HBw.out.size; have h3 := hf5.size; show _ ≤ _; omega
              have HB5 : Hid (∀ i, w.heap.size ≤ i → i < wq.heap.size → w5.heap[i]? = wq.heap[i]?) := fun i h1 h2 => by
                have h3 := HSx.out
                have h4 := HBw.out.size
                rw [hf5.block i h1 (by omega), HBw.out.block i (by omega), HBx.out i h1 h2]
              clear hi5 hf5
              go_wp2_with fail
              go_roundw
              case rel => exact ⟨x + 1, by omega, by go_num, HI5.out, HS5.out, HB5.out⟩
              case measure => simp [intOf]; omega
          · exact absurd rfl h
        · obtain rfl : x = a := by omega
          have HE : Hid (Inv (fac k) wr) := by show Inv _ _; rw [← HA.out]; exact HIx.out
          have HZ : Hid (w.heap.size ≤ wr.heap.size) := by have h1 := HSW.out; have h2 := HSx.out; show _ ≤ _; omega
          go_wp2_with fail
          go_ret
          exact ⟨rfl, HE.out, HZ.out⟩
end Go.Proofs.Ytimknmofcnhbpaa
