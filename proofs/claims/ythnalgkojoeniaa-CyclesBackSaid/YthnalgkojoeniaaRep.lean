/- slices.Repeat of one cell. No condition. -/
import Derived.Test.YthnalgkojoeniaaOf
import Derived.Laws.CopyOwn
import Derived.Laws.IdiomCopy
import Derived.Deep.RegionLaw
set_option linter.unusedSimpArgs false
set_option linter.unusedVariables false
namespace Go.Proofs.Ythnalgkojoeniaa
open Go.RowKit
theorem and400 : ∀ n : Nat, n ≤ 400 → bits BinOp.and IntKind.u64 (n : Int) 4294967295 = n := by
  have h : ∀ n : Fin 401, bits BinOp.and IntKind.u64 (n.val : Int) 4294967295 = n.val := by decide +kernel
  exact fun n hn => h ⟨n, by omega⟩
set_option maxHeartbeats 800000 in
theorem mul64_one (n : Nat) (hn : n ≤ 400) (w : World) : Calls Try.prog 35 #[.int .u64 1, .int .u64 n] w fun e w' => e = .returned (.tuple #[.int .u64 0, .int .u64 n]) ∧ w' = w := by
  have h1 : bits BinOp.and IntKind.u64 1 4294967295 = 1 := and400 1 (by omega)
  have h0 : bits BinOp.and IntKind.u64 0 4294967295 = 0 := and400 0 (by omega)
  have h2 := and400 n hn
  have h3 : (n : Int) / 4294967296 = 0 := by omega
  go_enter Try.func35, Try.ntmps35
  go_wp2_with fail
  go_ret2
  exact ⟨rfl, rfl⟩
set_option maxHeartbeats 800000 in
theorem mul_one' (n : Nat) (hn : n ≤ 400) (w : World) : Calls Try.prog 30 #[.int .u64 1, .int .u64 n] w fun e w' => e = .returned (.tuple #[.int .u64 0, .int .u64 n]) ∧ w' = w := by
  go_enter Try.func30, Try.ntmps30
  go_wp2_with fail
  refine (mul64_one n hn w).mono ?_
  rintro e w1 ⟨rfl, rfl⟩
  go_wp2_with fail
  go_ret2
  exact ⟨rfl, rfl⟩
def rp (n m : Nat) (x : Int) : List Value := (List.range n).map (fun k => Value.int .i64 (if k < m then x else 0))
theorem rp_len (n m : Nat) (x : Int) : (rp n m x).length = n := by unfold rp; simp
theorem rp_get (n m : Nat) (x : Int) (j : Nat) (hj : j < n) : (rp n m x)[j]? = some (Value.int .i64 (if j < m then x else 0)) := by
  unfold rp
  simp [hj]
theorem rp_zero (n : Nat) (x : Int) : rp n 0 x = (List.replicate n (0 : Int)).map (Value.int .i64) := by
  unfold rp
  apply List.ext_getElem (by simp)
  intro i a b
  simp
theorem splice_rp (n m c : Nat) (x : Int) (h : m + c ≤ n) : splice (rp n m x) m (List.replicate c (.int .i64 x)) = rp n (m + c) x := by
  apply List.ext_getElem?
  intro j
  unfold splice
  by_cases hj : j < n
  · rw [rp_get _ _ _ _ hj]
    by_cases h1 : j < m
    · rw [List.getElem?_append_left (by rw [List.length_take, rp_len]; omega), List.getElem?_take_of_lt h1, rp_get _ _ _ _ hj, if_pos h1, if_pos (by omega)]
    · rw [List.getElem?_append_right (by rw [List.length_take, rp_len]; omega), List.length_take, rp_len, show min m n = m by omega]
      by_cases h2 : j < m + c
      · rw [List.getElem?_append_left (by rw [List.length_replicate]; omega), List.getElem?_replicate_of_lt (by omega), if_pos h2]
      · rw [List.getElem?_append_right (by rw [List.length_replicate]; omega), List.length_replicate, List.getElem?_drop, if_neg h2, show m + c + (j - m - c) = j by omega, rp_get _ _ _ _ hj, if_neg h1]
  · rw [List.getElem?_eq_none (by simp [rp_len]; omega), List.getElem?_eq_none (by rw [rp_len]; omega)]
theorem own_heap {w : World} {base g n : Nat} {e : TypeId} {xs : List Value} (h : w.ownsRow base e 1 (.slice (some ⟨g, 0, none⟩) n n) n xs) : w.heap[g]? = some (.cells xs.toArray e (0, 0)) := by
  rcases h.2 with ⟨h1, _⟩ | ⟨g', cap, cur, heq, hbs, hgg, h1, h2, h3, h4⟩
  · cases h1
  · cases heq
    rw [hgg]
    have : cur.toList = xs := by rw [← h4, List.take_of_length_le (by simp; omega)]
    rw [← this, Array.toArray_toList]
theorem heap_own {w : World} {base g n : Nat} {e : TypeId} {xs : List Value} (h : w.heap[g]? = some (.cells xs.toArray e (0, 0))) (hl : xs.length = n) (hm : n ≤ maxLen) (hb : base ≤ g) : w.ownsRow base e 1 (.slice (some ⟨g, 0, none⟩) n n) n xs :=
  ⟨by omega, .inr ⟨g, n, xs.toArray, rfl, hb, h, Nat.le_refl _, hm, by simp [hl], by simp [← hl]⟩⟩
theorem size3 : (Try.prog.info? 3).map (·.size) = some 1 := by kernel_rfl
set_option maxHeartbeats 1600000 in
theorem repeat_one (n : Nat) (x : Int) (b : Nat) (hn1 : 1 ≤ n) (hn : n ≤ 400) (w : World) (hc : w.cell? ⟨b, 0, none⟩ = some (.int .i64 x)) :
    Calls Try.prog 24 #[.slice (some ⟨b, 0, none⟩) 1 1, .int .i64 n] w fun e w' => Below w.heap.size w w' ∧ ∃ g, e = .returned (.slice (some ⟨g, 0, none⟩) n n) ∧ w'.ownsRow w.heap.size 3 1 (.slice (some ⟨g, 0, none⟩) n n) n (rp n n x) := by
  obtain ⟨i3, hinfo3, hz0, hz1, hz2⟩ := info_parts Try.info3t
  have b3 : i3.bytes * n ≤ 281474976710656 := by rw [hz2]; omega
  have bm : n ≤ maxLen := by unfold maxLen; omega
  have f1 : decide ((n : Int) < 0) = false := decide_eq_false (by omega)
  have f2 : decide ((9223372036854775807 : Int) < (n : Int)) = false := decide_eq_false (by omega)
  go_enter Try.func24, Try.ntmps24
  go_wp2_with fail
  refine (mul_one' n hn _).mono ?_
  rintro e w1 ⟨rfl, rfl⟩
  go_wp2_with (refine wpList_make_full _ rfl _ _ 22 rfl w1.heap.size 3 i3 (.int .i64 0) 1 Try.underlying22 hinfo3 hz0 hz1 .i64 .i64 _ _ n rfl rfl ?hL ?hC b3 bm (Nat.le_refl _) ?_)
  case hL => simp
  case hC => simp
  intro w2 hown hgr
  have HB2 := Lib.hid ((Below.refl w1.heap.size w1).grown hgr (Nat.le_refl _) (fun k hk => by cases hk))
  have HG2 : Hid (w2.heap[w1.heap.size]? = some (.cells (rp n 0 x).toArray 3 (0, 0))) := by
    show _ = _
    rw [own_heap hown, zeros_eq, rp_zero]
  have hbw := World.block_lt_of_cell? w1 _ hc
  have hc2 := (World.cell?_of_block (HB2.out.block b hbw)).trans hc
  clear hown hgr hinfo3 hz0 hz1 hz2 b3
  obtain ⟨g, hg⟩ : ∃ g, w1.heap.size = g := ⟨_, rfl⟩
  have HG := Lib.hid hg
  rw [hg] at HG2 HB2 hbw ⊢
  clear hg
  have HC1 : Hid (∀ j v, [Value.int .i64 x][j]? = some v → w2.cell? ((⟨b, 0, none⟩ : Addr).add j) = some v) := fun j v hj => by
    cases j with
    | zero => simp at hj; subst hj; exact hc2
    | succ j => simp at hj
  go_wp2_with (refine wpList_copy_splice rfl (.tmp 31) (.tmp 32) 22 22 rfl 3 Try.underlying22 size3 _ _ _ _ _ _ rfl rfl g 0 (rp n 0 x) 3 HG2.out [Value.int .i64 x] (by show 1 = Nat.min 1 n; exact (Nat.min_eq_left hn1).symm) (fun _ => ⟨rfl, _, rfl, HC1.out⟩) ?hB ?hC g w1 HB2.out (Nat.le_refl _) ?_)
  case hB => rw [rp_len]; show 0 + 1 ≤ n; omega
  case hC => rfl
  intro w3 hg3 hb3
  have HG3 : Hid (w3.heap[g]? = some (.cells (rp n 1 x).toArray 3 (0, 0))) := by
    show _ = _
    rw [hg3.out, show [Value.int .i64 x] = List.replicate 1 (.int .i64 x) from rfl, splice_rp _ _ _ _ (by omega)]
  have HB3 := Lib.hid hb3
  clear hg3 hb3 HC1 HG2 HB2
  go_wp2_with fail
  go_loopw [8] (fun mv wr => ∃ m : Nat, 1 ≤ m ∧ m ≤ n ∧ mv = .int .i64 m ∧ Hid (wr.heap[g]? = some (.cells (rp n m x).toArray 3 (0, 0))) ∧ Hid (Below g w1 wr)) (fun mv _ => n - (intOf mv).toNat)
  case atStart => exact ⟨1, Nat.le_refl _, hn1, rfl, HG3, HB3⟩
  case round =>
    clear HG3 HB3
    obtain ⟨m, hm1, hm, rfl, HG3, HB3⟩ := hrel
    by_cases hlt : m < n
    · obtain ⟨c, hcc⟩ : ∃ c, c = Nat.min m (n - m) := ⟨_, rfl⟩
      have hc0 : m + c ≤ n ∧ 1 ≤ c := by
        have : c = min m (n - m) := hcc
        omega
      have HA : Hid ((List.replicate c (Value.int .i64 x)).length = Nat.min m (n - m)) := by
        show _ = _
        rw [List.length_replicate, hcc]
      have HP : Hid (∀ j v, (List.replicate c (Value.int .i64 x))[j]? = some v → wr.cell? ((⟨g, 0, none⟩ : Addr).add j) = some v) := fun j v hj => by
        have hjc : j < c := by
          rcases Nat.lt_or_ge j c with h | h
          · exact h
          · rw [List.getElem?_eq_none (by rw [List.length_replicate]; exact h)] at hj; cases hj
        rw [List.getElem?_replicate_of_lt hjc] at hj
        cases hj
        have hjm : j < m := by
          have : c = min m (n - m) := hcc
          omega
        have := (heap_own (base := g) HG3.out (rp_len n m x) bm (Nat.le_refl _)).cellAt j (by omega)
        rw [rp_get _ _ _ _ (by omega), if_pos hjm] at this
        simp only [Addr.add]
        split
        · rename_i e; rw [← this, e]
        · simpa using this
      have HF : Hid (m + (List.replicate c (Value.int .i64 x)).length ≤ (rp n m x).length) := by
        show _ ≤ _
        rw [List.length_replicate, rp_len]; exact hc0.1
      have H1 : Hid (∀ v ∈ List.replicate c (Value.int .i64 x), v.oneCell' = true) := fun v hv => by
        rw [List.eq_of_mem_replicate hv]; rfl
      have HN : Hid (∀ w4 : World, w4.heap[g]? = some (.cells (splice (rp n m x) m (List.replicate c (.int .i64 x))).toArray 3 (0, 0)) → w4.heap[g]? = some (.cells (rp n (m + c) x).toArray 3 (0, 0))) := fun w4 h => by
        rw [h, splice_rp _ _ _ _ hc0.1]
      clear hcc
      have q1 : ¬ n = m := by omega
      have q2 : ¬ m = n := by omega
      have hw : IntKind.i64.wrap ((m : Int) + (c : Int)) = ((m + c : Nat) : Int) := by
        have h1 := hc0.1
        rw [IntKind.wrap_i64]; omega
      have HBD : Hid (Below g w1 wr.drew) := HB3.out.drewN 1
      go_wp2_with fail
      go_region_law (refine step_copy_splice rfl (.tmp 41) (.tmp 44) 22 22 rfl 3 Try.underlying22 size3 (some ⟨g, m, none⟩) (some ⟨g, 0, none⟩) (n - m) (n - m) m n (by simp [Act.eval, Act.put]) (by simp [Act.eval, Act.put]) g m (rp n m x) 3 HG3.out (List.replicate c (.int .i64 x)) HA.out (fun _ => ⟨rfl, _, rfl, HP.out⟩) HF.out H1.out g w1 (by first | exact HB3.out | exact HBD.out) (Nat.le_refl _) ?_; intro w4 hg4 hb4)
      go_simp
      refine ⟨⟨_, _, _, _, _, _, _, _, _, _, _, _, _, _, ⟨m + c, by omega, hc0.1, rfl, HN.out w4 hg4.out, hb4⟩, rfl⟩, ?_⟩
      simp [intOf, hw]; omega
    · obtain rfl : m = n := by omega
      go_wp2_with fail
      go_ret
      refine ⟨by rw [HG.out]; exact HB3.out, g, rfl, ?_⟩
      rw [HG.out]
      have := heap_own (base := g) HG3.out (rp_len m m x) bm (Nat.le_refl _)
      exact this
theorem mk0_run (w : World) : (Instr.makeSlice 22 (.int .i64 0) (.int .i64 0)).run Try.prog w = .ok (.slice (some ⟨w.heap.size, 0, none⟩) 0 0) (w.alloc (.cells #[] 3)) := by
  obtain ⟨i0, hinfo, hz0, hz1, hz2⟩ := info_parts Try.info3t
  have := run_make (P := Try.prog) w 22 3 i0 (.int .i64 0) Try.underlying22 hinfo hz0 .i64 .i64 0 0 (by omega) (Int.le_refl _) (by rw [hz2]; decide) (by decide)
  rw [this]
  have e : madeCells (Value.int .i64 0).cells (Int.toNat 0 * i0.size) = #[] := by simp [madeCells]
  rw [e]; rfl
set_option maxHeartbeats 800000 in
theorem repeat_none (b : Nat) (w : World) (x : Int) (hc : w.cell? ⟨b, 0, none⟩ = some (.int .i64 x)) :
    Calls Try.prog 24 #[.slice (some ⟨b, 0, none⟩) 1 1, .int .i64 0] w fun e w' => Below w.heap.size w w' ∧ ∃ g, e = .returned (.slice (some ⟨g, 0, none⟩) 0 0) ∧ w.heap.size ≤ g ∧ w'.ownsRow w.heap.size 3 1 (.slice (some ⟨g, 0, none⟩) 0 0) 0 [] := by
  go_enter Try.func24, Try.ntmps24
  go_wp2_with fail
  refine (mul_one' 0 (by omega) _).mono ?_
  rintro e w1 ⟨rfl, rfl⟩
  have hmk := mk0_run
  have hcp : ∀ (a b : Addr) (w : World), (Builtin.copy_ #[22, 22] 3 #[.slice (some a) 0 0, .slice (some b) 1 1]).run Try.prog w = .ok (.int .i64 0) w := fun a b w => run_copy_none (P := Try.prog) w 22 22 3 3 (some a) (some b) 0 0 1 1 Try.underlying22 size3 rfl
  go_wp2_with fail
  refine wp_loop_rounds 1 ?_
  rw [rounds_succ]
  go_wp2_with fail
  go_ret
  exact ⟨(Below.refl _ _).alloc (Nat.le_refl _) _, w1.heap.size, rfl, Nat.le_refl _, heap_own (xs := []) (heap_alloc_new w1 _) rfl (Nat.zero_le _) (Nat.le_refl _)⟩
/-- n cells, in a row of one's own. -/
theorem repeat_any (n : Nat) (x : Int) (b : Nat) (hn : n ≤ 400) (w : World) (hc : w.cell? ⟨b, 0, none⟩ = some (.int .i64 x)) :
    Calls Try.prog 24 #[.slice (some ⟨b, 0, none⟩) 1 1, .int .i64 n] w fun e w' => Below w.heap.size w w' ∧ ∃ g, e = .returned (.slice (some ⟨g, 0, none⟩) n n) ∧ w.heap.size ≤ g ∧ w'.ownsRow w.heap.size 3 1 (.slice (some ⟨g, 0, none⟩) n n) n ((List.replicate n x).map (Value.int .i64)) := by
  by_cases h0 : 1 ≤ n
  · refine (repeat_one n x b h0 hn w hc).mono ?_
    rintro e w' ⟨hb, g, rfl, ho⟩
    refine ⟨hb, g, rfl, ho.lt g rfl |>.1, ?_⟩
    have e : rp n n x = (List.replicate n x).map (Value.int .i64) := by
      unfold rp
      apply List.ext_getElem (by simp)
      intro i a b
      have hi : i < n := by simpa using a
      simp [hi]
    rwa [e] at ho
  · obtain rfl : n = 0 := by omega
    refine (repeat_none b w x hc).mono ?_
    rintro e w' ⟨hb, g, rfl, hg, hg2⟩
    exact ⟨hb, g, rfl, hg, hg2⟩
end Go.Proofs.Ythnalgkojoeniaa
