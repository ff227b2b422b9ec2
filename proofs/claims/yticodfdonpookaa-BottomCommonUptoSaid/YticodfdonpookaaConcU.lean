/- slices.Concat of two slices (and slices.Grow of nothing). S: the number of the slice type, SS: of slices of it. No condition but that it fits. -/
import Derived.Test.YticodfdonpookaaGen
import Derived.Lib.AppendZerosOnto
set_option linter.unusedSimpArgs false
set_option linter.unusedVariables false
set_option maxRecDepth 20000
namespace Go.Proofs.Yticodfdonpookaa
open Go.RowKit
/-- A row of the call's own, k cells in it, with room for N. -/
def Room (w : World) (base : Nat) (e : TypeId) (v : Value) (k : Nat) (xs : List Value) (N : Nat) : Prop :=
  w.ownsRow base e 1 v k xs ∧ ((v = .slice none 0 0 ∧ k = 0 ∧ N = 0) ∨ ∃ g cap, v = .slice (some ⟨g, 0, none⟩) k cap ∧ N ≤ cap)
/-- Append of whatever is read onto a row of the call's own that has the room. -/
theorem push_room {P : Program} {w : World} {ops : Array Oper} {rest : List Oper} {o : Oper} {a : Act} {Q : Exit → Act → World → Prop} (hgd : o.guard = none) (s x : Operand) (t : TypeId)
    (ho : o.op = .call { callee := .builtin .append, args := #[s, x], argTypes := #[t, t] })
    (base : Nat) (e : TypeId) (i : TypeInfo) (z : Value) (bytes : Nat) (ht : P.underlying t = some (.slice e)) (hi : P.info? e = some i) (hz : i.zero = some z)
    (hsize : i.size = 1) (hby : i.bytes = bytes) (hb8 : bytes ≤ 8) (hzs : z.cells.size = 1)
    (v : Value) (n N : Nat) (xs : List Value) (hs : a.eval s = v) (hown : Room w base e v n xs N)
    (ao : Option Addr) (m c : Nat) (news : List Value) (hx : a.eval x = .slice ao m c) (hn : news.length = m) (hnone : ao = none → m = 0 ∧ c = 0)
    (hc : ∀ ad, ao = some ad → ∀ j u, news[j]? = some u → w.cell? (ad.add j) = some u) (h1c : ∀ u ∈ news, u.oneCell' = true)
    (hN : n + m ≤ N) (hbase : base ≤ w.heap.size)
    (h : ∀ v' w', Room w' base e v' (n + m) (xs ++ news) N → w.grownBy w' v.ownBlock → wpList P ops Q rest (a.put o.dst v') w') :
    wpList P ops Q (o :: rest) a w := by
  obtain ⟨ho1, ho2⟩ := hown
  rcases ho2 with ⟨rfl, rfl, rfl⟩ | ⟨g, cap, rfl, hcap⟩
  · obtain rfl : m = 0 := by omega
    have hnews : news = [] := List.eq_nil_of_length_eq_zero hn
    subst hnews
    cases ao with
    | some ad =>
      refine wpList_append_own _ hgd s x t ho base e i z 1 bytes ht hi hz hsize hby hzs (by decide) _ 0 xs hs ho1 ad 0 c [] hx (by simp) (hc ad rfl) h1c (Nat.zero_le _) (by omega) hbase fun v' w' h1 h2 h3 => ?_
      exact h v' w' ⟨h1, .inl ⟨h3.2 ⟨rfl, rfl⟩, rfl, rfl⟩⟩ h2
    | none =>
      obtain ⟨_, rfl⟩ := hnone rfl
      refine wpList_plain hgd fun K hK' => ?_
      have hrun := run_append_owned_none (P := P) (w := w) base t o.type e i 1 ht hi _ 0 xs ho1
      unfold Oper.wp
      simp [execOp, ho, resolve, invoke, builtin, hs, hx, hrun, Result.andThen]
      exact hK' _ _ (h _ w ⟨by simpa using ho1, .inl ⟨rfl, rfl, rfl⟩⟩ (World.grownBy.refl _ _))
  · exact wpList_append_fits_any w hgd s x t ho base e i 1 ht hi hsize g n cap xs hs ho1 ao m c news hx (by omega) hnone hc h1c (by omega) fun w' h1 h2 => h _ w' ⟨h1, .inr ⟨g, cap, rfl, hcap⟩⟩ h2
theorem next_zero (n : Nat) : Builtin.nextslicecap n 0 = n := by
  unfold Builtin.nextslicecap
  by_cases h : n = 0
  · subst h; simp
  · simp; omega
theorem cell_mono {w w1 : World} {x : Addr} {u : Value} (hb : Below w.heap.size w w1) (h : w.cell? x = some u) : w1.cell? x = some u := by
  rw [World.cell?_of_block (hb.block _ (World.block_lt_of_cell? w _ h))]; exact h
theorem Try.info22t : (Try.prog.info? 22).map (fun i => (i.zero, i.size, i.bytes)) = some (some (.int .u64 0), 1, 8) := by kernel_rfl
theorem growi_none (w : World) : Calls Try.prog 23 #[.slice none 0 0, .int .i64 0] w fun e w' => e = .returned (.slice none 0 0) ∧ w = w' := by
  go_enter Try.func23, Try.ntmps23
  go_wp2_with fail
  go_ret
  exact ⟨rfl, rfl⟩
set_option maxHeartbeats 800000 in
theorem growi_some (n : Nat) (h0 : 0 < n) (hn : n * 8 ≤ 281474976710656) (w : World) : Calls Try.prog 23 #[.slice none 0 0, .int .i64 n] w fun e w' =>
    Below w.heap.size w w' ∧ ∃ v, e = .returned v ∧ Room w' w.heap.size 22 v 0 [] n := by
  obtain ⟨i0, hi, hz0, hz1, hz2⟩ := info_parts Try.info22t
  have hi0 := hi
  have hold : (Builtin.firstCells i0.size 0 (.slice none 0 0)).run Try.prog w.drew = .ok ([] : List Value).toArray w.drew := by
    exact run_firstCells_none w.drew i0.size 0 0 0
  have hrz : ∀ ty, (Builtin.append_ #[23, 3] ty #[.slice none 0 0, .int .i64 (n : Int)]).run Try.prog w =
      .ok (.slice (some ⟨w.heap.size, 0, none⟩) n (grownCap w n 0 22)) (w.drew.alloc (.cells (Builtin.zeroCells (Value.cells (Value.int .u64 0)) n ++ Builtin.zeroCells (Value.cells (Value.int .u64 0)) (grownCap w n 0 22 - n)) 22)) := fun ty => by
    have h := Lib.run_append_grow_zeros w 23 3 ty 22 i0 (Value.int .u64 0) .i64 .i64 Try.underlying23 Try.underlying3 hi0 hz0 none 0 0 [] hold n h0 (by rw [hz1]; decide) (by omega) (by omega)
      (by rw [hz2]; omega) (by rw [hz2, next_zero]; omega)
    simp only [Nat.zero_add] at h
    rw [h]; simp
  have hGn : n ≤ grownCap w n 0 22 := grownCap_ge w _ _ _
  have hG63 : grownCap w n 0 22 ≤ maxLen := grownCap_le_maxLen w n 0 22 (by unfold maxLen; omega)
  generalize grownCap w n 0 22 = G at *
  have hG64 : G ≤ 9223372036854775807 := by unfold maxLen at hG63; exact hG63
  have HOWN : Hid ((w.drew.alloc (.cells (Builtin.zeroCells (Value.cells (Value.int .u64 0)) n ++ Builtin.zeroCells (Value.cells (Value.int .u64 0)) (G - n)) 22)).ownsRow w.heap.size 22 1 (.slice (some ⟨w.heap.size, 0, none⟩) 0 G) 0 []) := by
    refine ⟨rfl, .inr ⟨w.heap.size, G, _, rfl, Nat.le_refl _, heap_alloc_new w.drew _, Nat.zero_le _, hG63, ?_, rfl⟩⟩
    rw [Array.size_append, size_zeroCells, size_zeroCells, show (Value.cells (Value.int .u64 0)).size = 1 from rfl]; omega
  have HR := Lib.hid hrz
  have HG := Lib.hid hGn
  clear hold hrz
  go_enter Try.func23, Try.ntmps23
  go_wp2_with (at_builtin; refine Lib.wpList_append_run _ rfl _ _ _ _ rfl _ _ rfl rfl _ _ (HR.out _) ?_)
  all_goals
    go_ret
    exact ⟨((Below.refl _ _).drew).alloc (by simp) _, _, rfl, HOWN.out, .inr ⟨_, _, rfl, HG.out⟩⟩
theorem growi_any (n : Nat) (hn : n * 8 ≤ 281474976710656) (w : World) : Calls Try.prog 23 #[.slice none 0 0, .int .i64 n] w fun e w' =>
    Below w.heap.size w w' ∧ ∃ v, e = .returned v ∧ Room w' w.heap.size 22 v 0 [] n := by
  by_cases h : 0 < n
  · exact growi_some n h hn w
  · obtain rfl : n = 0 := by omega
    exact (growi_none w).mono fun e w' ⟨h1, h2⟩ => by subst h2; exact ⟨Below.refl _ _, _, h1, ⟨rfl, .inl ⟨rfl, rfl⟩⟩, .inl ⟨rfl, rfl, rfl⟩⟩
theorem Rd.app {w : World} {a : Option Addr} {n c : Nat} {zs : List Int} (h : Rd w (.slice a n c) zs) :
    zs.length = n ∧ n ≤ c ∧ c ≤ 9223372036854775807 ∧ (∀ ad, a = some ad → ∀ j u, (zs.map (Value.int .u64))[j]? = some u → w.cell? (ad.add j) = some u) := by
  obtain ⟨a', c', he, h1, h2, h3⟩ := h
  cases he
  refine ⟨rfl, h1, by unfold maxLen at h2; exact h2, ?_⟩
  intro ad had j u hu
  subst had
  rcases h3 with rfl | ⟨b, off, he, hlt, hc⟩
  · simp at hu
  · cases he
    rw [List.getElem?_map, Option.map_eq_some_iff] at hu
    obtain ⟨x, hx, rfl⟩ := hu
    have hj : j < zs.length := (List.getElem?_eq_some_iff.1 hx).1
    have := hc j hj
    rw [Go.WideShapes.add_plain]
    rw [this, List.getD_eq_getElem?_getD, hx]; rfl
theorem Rd.take {w : World} {a : Option Addr} {n c k : Nat} {zs : List Int} (h : Rd w (.slice a n c) zs) (hk : k ≤ n) : Rd w (.slice a k c) (zs.take k) := by
  obtain ⟨a', c', he, h1, h2, h3⟩ := h
  cases he
  have hl : (zs.take k).length = k := by rw [List.length_take]; omega
  refine ⟨a, c, by rw [hl], by omega, h2, ?_⟩
  rcases h3 with rfl | ⟨b, off, he, hlt, hc⟩
  · left; simp
  · right
    refine ⟨b, off, he, hlt, fun i hi => ?_⟩
    rw [hc i (by omega)]
    simp [List.getD_eq_getElem?_getD, List.getElem?_take, show i < k by omega]
theorem Rd.drop {w : World} {a : Option Addr} {n c k : Nat} {zs : List Int} (h : Rd w (.slice a n c) zs) (hk : k ≤ n) :
    (¬ c = k → Rd w (.slice (Option.map (fun x => x.add k) a) (n - k) (c - k)) (zs.drop k)) ∧ (c = k → Rd w (.slice a 0 0) (zs.drop k)) := by
  obtain ⟨a', c', he, h1, h2, h3⟩ := h
  cases he
  have hl : (zs.drop k).length = zs.length - k := List.length_drop
  refine ⟨fun hc => ⟨_, c - k, by rw [hl], by omega, by omega, ?_⟩, fun hc => ?_⟩
  · rcases h3 with rfl | ⟨b, off, rfl, hlt, hcell⟩
    · left; simp
    · right
      refine ⟨b, off + k, by simp [Addr.add], hlt, fun i hi => ?_⟩
      rw [Nat.add_assoc, hcell (k + i) (by omega)]
      simp [List.getD_eq_getElem?_getD, List.getElem?_drop]
  · subst hc
    have e : zs.drop c = [] := List.drop_eq_nil_of_le (by omega)
    rw [e]
    exact ⟨a, 0, rfl, Nat.le_refl _, Nat.zero_le _, .inl rfl⟩
set_option maxHeartbeats 1600000 in
theorem concatu_any (b n1 c1 n2 c2 : Nat) (a1 a2 : Option Addr) (xs ys : List Int) (w : World) (hr1 : Rd w (.slice a1 n1 c1) xs) (hr2 : Rd w (.slice a2 n2 c2) ys)
    (hn1 : a1 = none → n1 = 0 ∧ c1 = 0) (hn2 : a2 = none → n2 = 0 ∧ c2 = 0)
    (hk1 : w.cell? ⟨b, 0, none⟩ = some (.slice a1 n1 c1)) (hk2 : w.cell? ⟨b, 1, none⟩ = some (.slice a2 n2 c2)) (hb : b < w.heap.size)
    (hlen : (n1 + n2) * 8 ≤ 281474976710656) :
    Calls Try.prog 10 #[.slice (some ⟨b, 0, none⟩) 2 2] w fun e w' => Below w.heap.size w w' ∧ ∃ v, e = .returned v ∧ w'.ownsRow w.heap.size 22 1 v (n1 + n2) ((xs ++ ys).map (Value.int .u64)) := by
  obtain ⟨i0, hi, hz0, hz1, hz2⟩ := info_parts Try.info22t
  obtain ⟨l1, m1, m1', p1⟩ := hr1.app
  obtain ⟨l2, m2, m2', p2⟩ := hr2.app
  have HP1 := Lib.hid p1
  have HP2 := Lib.hid p2
  clear p1 p2 hr1 hr2
  have HN1 := Lib.hid hn1; have HN2 := Lib.hid hn2
  clear hn1 hn2
  go_enter Try.func10, Try.ntmps10
  go_wp2_with fail
  refine wp_loop_rounds 3 ?_
  rw [rounds_succ]
  go_wp2_with fail
  rw [rounds_succ]
  go_wp2_with fail
  rw [rounds_succ]
  go_wp2_with fail
  have hg := Lib.hid (fun w => growi_any (n1 + n2) hlen w)
  have hcast : ((n1 : Int) + (n2 : Int)) = ((n1 + n2 : Nat) : Int) := by omega
  rw [hcast]
  clear hcast
  refine (hg.out _).mono ?_
  rintro e w1 ⟨hb1, v, rfl, hown⟩
  have HB := Lib.hid hb1
  have HO := Lib.hid hown
  have hk1' : w1.cell? ⟨b, 0, none⟩ = some (.slice a1 n1 c1) := ((bcell hb1).1 b 0 hb).trans hk1
  have hk2' : w1.cell? ⟨b, 1, none⟩ = some (.slice a2 n2 c2) := ((bcell hb1).1 b 1 hb).trans hk2
  have hs1 := hb1.size
  have hc1 : ∀ ad, a1 = some ad → ∀ j u, (xs.map (Value.int .u64))[j]? = some u → w1.cell? (ad.add j) = some u := fun ad h j u hu => cell_mono hb1 (HP1.out ad h j u hu)
  have hc2 : ∀ ad, a2 = some ad → ∀ j u, (ys.map (Value.int .u64))[j]? = some u → w1.cell? (ad.add j) = some u := fun ad h j u hu => cell_mono hb1 (HP2.out ad h j u hu)
  have HC1 := Lib.hid hc1; have HC2 := Lib.hid hc2
  have HQ2 := HP2
  clear hb1 hown hk1 hk2 hc1 hc2 HP1 HP2
  go_wp2_with fail
  refine wp_loop_rounds 3 ?_
  rw [rounds_succ]
  have g1 : 0 + n1 ≤ n1 + n2 := by omega
  have g3 : (xs.map (Value.int .u64)).length = n1 := by simp; exact l1
  have g4 : ∀ u ∈ xs.map (Value.int .u64), u.oneCell' = true := fun u hu => by obtain ⟨x, _, rfl⟩ := List.mem_map.1 hu; rfl
  have G1 := Lib.hid g1; have G3 := Lib.hid g3; have G4 := Lib.hid g4; have S1 := Lib.hid hs1
  clear g1 g3 g4
  go_wp2_with (at_builtin; go_must (refine push_room rfl _ _ 23 rfl w.heap.size 22 i0 (Value.int .u64 0) 8 Try.underlying23 hi hz0 hz1 hz2 (by decide) rfl _ 0 (n1 + n2) [] rfl HO.out a1 n1 c1 (xs.map (Value.int .u64)) rfl G3.out HN1.out HC1.out G4.out G1.out S1.out ?_))
  intro v1 w2 hown hgr
  try simp only [Nat.zero_add, List.nil_append] at hown
  have hk2 : w2.cell? ⟨b, 1, none⟩ = some (.slice a2 n2 c2) := by
    rw [World.cell?_of_block (hgr.block b (by omega) (fun h => by have := HO.out.1.lt b h.symm; omega))]; exact hk2'
  have hc2 : ∀ ad, a2 = some ad → ∀ j u, (ys.map (Value.int .u64))[j]? = some u → w2.cell? (ad.add j) = some u := fun ad h j u hu => by
    have h1 := HC2.out ad h j u hu
    have h0 := World.block_lt_of_cell? w _ (HQ2.out ad h j u hu)
    have hlt : (ad.add j).block < w1.heap.size := by omega
    rw [World.cell?_of_block (hgr.block _ hlt (fun h => by have := HO.out.1.lt _ h.symm; omega))]; exact h1
  have hB2 : Below w.heap.size w w2 := HB.out.grown hgr hs1 (fun k hk => (HO.out.1.lt k hk).1)
  have g1 : n1 + n2 ≤ n1 + n2 := Nat.le_refl _
  have g3 : (ys.map (Value.int .u64)).length = n2 := by simp; exact l2
  have g4 : ∀ u ∈ ys.map (Value.int .u64), u.oneCell' = true := fun u hu => by obtain ⟨x, _, rfl⟩ := List.mem_map.1 hu; rfl
  have g5 : w.heap.size ≤ w2.heap.size := hB2.size
  have HB2 := Lib.hid hB2
  have HO2 := Lib.hid hown
  have HC2 := Lib.hid hc2
  have G1 := Lib.hid g1; have G3 := Lib.hid g3; have G4 := Lib.hid g4; have S1 := Lib.hid g5
  clear g1 g3 g4 hB2 hown hgr hc2
  go_wp2_with fail
  rw [rounds_succ]
  go_wp2_with (at_builtin; go_must (refine push_room rfl _ _ 23 rfl w.heap.size 22 i0 (Value.int .u64 0) 8 Try.underlying23 hi hz0 hz1 hz2 (by decide) rfl _ n1 (n1 + n2) (xs.map (Value.int .u64)) rfl HO2.out a2 n2 c2 (ys.map (Value.int .u64)) rfl G3.out HN2.out HC2.out G4.out G1.out S1.out ?_))
  intro v2 w3 hown hgr
  have HB3 := Lib.hid (HB2.out.grown hgr S1.out (fun k hk => (HO2.out.1.lt k hk).1))
  rw [← List.map_append] at hown
  have HR := Lib.hid hown.1
  clear hown hgr
  go_wp2_with fail
  rw [rounds_succ]
  go_wp2_with fail
  go_ret
  exact ⟨HB3.out, _, rfl, HR.out⟩
end Go.Proofs.Yticodfdonpookaa
