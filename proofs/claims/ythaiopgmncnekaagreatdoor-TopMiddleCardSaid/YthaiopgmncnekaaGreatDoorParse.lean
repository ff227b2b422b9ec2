/- bench.Parse: what it answers. Condition: the listed variables as they are laid. -/
import Derived.Test.YthaiopgmncnekaaGreatDoorNums
import Derived.Deep.AppendLies
import Derived.Deep.RegionLaw
set_option linter.unusedSimpArgs false
set_option linter.unusedVariables false
set_option maxRecDepth 20000
namespace Go.Proofs.YthaiopgmncnekaaGreatDoor
open Go.RowKit
theorem adds_fuel : ∀ (f g k : Nat) (t : List UInt8), t.length < f → t.length < g → adds f k t = adds g k t
  | 0, _, _, _, h, _ => by omega
  | _ + 1, 0, _, _, _, h => by omega
  | f + 1, g + 1, k, t, hf, hg => by
    unfold adds
    split
    · rfl
    · cases hc : cutAt 10 t with
      | none => rfl
      | some p =>
        obtain ⟨a, d⟩ := p
        have hl := ((cutAt_some 10).1 hc).1
        have hd : d.length < t.length := by rw [hl]; simp; omega
        simp only
        rw [adds_fuel f g (k + 1) d (by omega) (by omega)]
def addsK (k : Nat) (t : List UInt8) : Except Nat (List (Nat × Nat)) := adds (t.length + 1) k t
theorem addsK_nil (k : Nat) : addsK k [] = .ok [] := rfl
theorem addsK_none {k : Nat} {t : List UInt8} (h0 : t ≠ []) (h : cutAt 10 t = none) : addsK k t = .error k := by
  unfold addsK adds; rw [if_neg h0, h]
theorem addsK_some {k : Nat} {t a d : List UInt8} (h : cutAt 10 t = some (a, d)) : addsK k t = match nums a wAdd 2 with
    | some [x, y] => (match addsK (k + 1) d with
      | .ok r => .ok ((x, y) :: r)
      | .error e => .error e)
    | _ => .error k := by
  have hl := ((cutAt_some 10).1 h).1
  have hd : d.length < t.length := by rw [hl]; simp; omega
  have h0 : t ≠ [] := by rw [hl]; simp
  unfold addsK
  rw [← adds_fuel t.length (d.length + 1) (k + 1) d hd (by omega)]
  rw [adds, if_neg h0, h]
  rfl
/-- The cells of those who come. -/
def comeC (l : List (Nat × Nat)) : List Value := l.flatMap fun p => [.int .i64 p.1, .int .i64 p.2]
theorem comeC_app (l : List (Nat × Nat)) (x d : Nat) : comeC (l ++ [(x, d)]) = comeC l ++ [.int .i64 x, .int .i64 d] := by simp [comeC]
/-- What Parse answers. -/
def ParseP (w w' : World) (e : Ending) : Except Nat (Nat × List (Nat × Nat)) → Prop
  | .ok (r, l) => ∃ v, e = .returned (.tuple #[.int .i64 r, v, .int .i64 0, .int .i64 0]) ∧ w'.ownsRow w.heap.size 60 2 v l.length (comeC l)
  | .error k => e = .returned (.tuple #[.int .i64 0, .slice none 0 0, .int .i64 k, .int .i64 1])
def lenOf : Value → Nat
  | .string s => s.size
  | _ => 0
def cutR (s : List UInt8) : List UInt8 × List UInt8 × Bool := match cutAt 10 s with
  | some (a, d) => (a, d, true)
  | none => (s, [], false)
theorem cut_r (l : List UInt8) (w : World) (hT : TW w) (hl : l.length < 4294967281) :
    Calls Tryz.prog 29 #[.string ⟨l.toArray⟩, .string ⟨#[10]⟩] w fun e w' => e = .returned (.tuple #[.string ⟨(cutR l).1.toArray⟩, .string ⟨(cutR l).2.1.toArray⟩, .bool (cutR l).2.2]) ∧ Below w.heap.size w w' := by
  refine (cut_any l w hT hl).mono ?_
  rintro e w' ⟨he, n, rfl⟩
  refine ⟨?_, (Below.refl _ _).drewN n⟩
  rw [he]
  unfold cutR
  cases cutAt 10 l with
  | none => rfl
  | some p => rfl
theorem cutR_len (s : List UInt8) : (cutR s).1.length ≤ s.length := by
  unfold cutR
  cases h : cutAt 10 s with
  | none => exact Nat.le_refl _
  | some p => have := ((cutAt_some 10).1 h).1; rw [this]; simp
theorem cutR_true {s a d : List UInt8} (h : cutR s = (a, d, true)) : cutAt 10 s = some (a, d) ∧ d.length < s.length := by
  unfold cutR at h
  cases hc : cutAt 10 s with
  | none => rw [hc] at h; cases h
  | some p =>
    rw [hc] at h
    obtain ⟨a', d'⟩ := p
    cases h
    have hl := ((cutAt_some 10).1 hc).1
    exact ⟨rfl, by rw [hl]; simp; omega⟩
theorem cutR_false {s a d : List UInt8} (h : cutR s = (a, d, false)) : cutAt 10 s = none := by
  unfold cutR at h
  cases hc : cutAt 10 s with
  | none => rfl
  | some p => rw [hc] at h; cases h
theorem nums_len {l word : List UInt8} {many : Nat} {ns : List Nat} (hw : (32 : UInt8) ∉ word) (h : nums l word many = some ns) : ns.length = many := ((nums_some hw).1 h).1
theorem Tryz.info60 : (Tryz.prog.info? 60).map (fun i => (i.zero, i.size, i.bytes)) = some (some (.agg #[.int .i64 0, .int .i64 0]), 2, 16) := by kernel_rfl
theorem push2 {P : Program} {w : World} {ops : Array Oper} {rest : List Oper} {o : Oper} {a : Act} {Q : Exit → Act → World → Prop} (hgd : o.guard = none) (s x : Operand) (t : TypeId)
    (ho : o.op = .call { callee := .builtin .append, args := #[s, x], argTypes := #[t, t] })
    (base : Nat) (e : TypeId) (i : TypeInfo) (z : Value) (ht : P.underlying t = some (.slice e)) (hi : P.info? e = some i) (hz : i.zero = some z)
    (hsize : i.size = 2) (hby : i.bytes = 16) (hzs : z.cells.size = 2)
    (v : Value) (n : Nat) (xs : List Value) (hs : a.eval s = v) (hown : w.ownsRow base e 2 v n xs)
    (u u2 : Value) (b : Nat) (hx : a.eval x = .slice (some ⟨b, 0, none⟩) 1 1) (hbl : b = w.heap.size) (h1 : u.oneCell' = true) (h2 : u2.oneCell' = true)
    (h63 : n + 1 ≤ 8000000000000) (hbase : base ≤ w.heap.size)
    (h : ∀ v' w', w'.ownsRow base e 2 v' (n + 1) (xs ++ [u, u2]) → (w.alloc (.cells #[u, u2] e)).grownBy w' v.ownBlock → wpList P ops Q rest (a.put o.dst v') w') :
    wpList P ops Q (o :: rest) a (w.alloc (.cells #[u, u2] e)) := by
  subst hbl
  refine wpList_append_own _ hgd s x t ho base e i z 2 16 ht hi hz hsize hby hzs (by decide) v n xs hs (hown.alloc _) ⟨w.heap.size, 0, none⟩ 1 1 [u, u2] hx rfl ?_ ?_ ?_ ?_ ?_ ?_
  · intro j u' hj
    match j, hj with
    | 0, hj => simp at hj; subst hj; simp [Addr.add]
    | 1, hj => simp at hj; subst hj; simp [Addr.add]
  · intro u' hu'; simp at hu'; rcases hu' with rfl | rfl <;> assumption
  · unfold maxLen; omega
  · omega
  · simp; omega
  · intro v' w' ho' hg _; exact h v' w' ho' hg
theorem own_slice {w : World} {base : Nat} {e : TypeId} {v : Value} {n : Nat} {xs : List Value} (h : w.ownsRow base e 1 v n xs) (hn : 0 < n) : ∃ g cap, v = .slice (some ⟨g, 0, none⟩) n cap := by
  rcases h.2 with ⟨rfl, h0⟩ | ⟨g, cap, cur, rfl, _⟩
  · omega
  · exact ⟨_, _, rfl⟩
theorem results_tmp4 {fn : Func} {t u v x : Tmp} (h : fn.results = #[.tmp t, .tmp u, .tmp v, .tmp x]) (tmps : Array Value) (P : Program) (w : World) :
    (results fn tmps).run P w = .ok (.tuple #[tmps.getD t undef, tmps.getD u undef, tmps.getD v undef, tmps.getD x undef]) w := by
  simp [results, h, go_sem]
set_option maxHeartbeats 1600000 in
set_option maxRecDepth 20000 in
theorem parse_any (t : List UInt8) (w : World) (hT : TW w) (hl : t.length < 4294967281) :
    Calls Tryz.prog 19 #[.string ⟨t.toArray⟩] w fun e w' => Below w.heap.size w w' ∧ ParseP w w' e (parse t) := by
  obtain ⟨i37, hi37, hz0, hz1, hz2⟩ := info_parts Tryz.info60
  have HTT := Lib.hid hT
  clear hT
  go_enter Tryz.func19, Tryz.ntmps19
  go_wp2_with fail
  go_loopw [0, 6, 7, 8] (fun tv rv ov kv wr => Hid (Below w.heap.size w wr) ∧ ∃ (k : Nat) (s : List UInt8), tv = .string ⟨s.toArray⟩ ∧ kv = .int .i64 k ∧ k + s.length ≤ t.length ∧
    ((k = 0 ∧ s = t ∧ rv = .int .i64 0 ∧ ov = .slice none 0 0) ∨ (∃ (r : Nat) (dl : List (Nat × Nat)), 1 ≤ k ∧ k = dl.length + 1 ∧ rv = .int .i64 r ∧ Hid (wr.ownsRow w.heap.size 60 2 ov dl.length (comeC dl)) ∧ Hid (parse t = match addsK k s with
      | .ok a => .ok (r, dl ++ a)
      | .error e => .error e))))
    (fun tv _ _ _ _ => lenOf tv)
  case atStart => exact ⟨Below.refl _ _, 0, t, rfl, rfl, by omega, .inl ⟨rfl, rfl, rfl, rfl⟩⟩
  case round =>
    obtain ⟨HB, k, s, rfl, rfl, hks, hcase⟩ := hrel
    rcases hcase with ⟨rfl, rfl, rfl, rfl⟩ | ⟨r, dl, hk1, hkd, rfl, HO, HP⟩
    · have hw1 : IntKind.i64.wrap ((0 : Int) + 1) = 1 := rfl
      obtain ⟨a, d, b, hcut⟩ : ∃ a d b, cutR s = (a, d, b) := ⟨_, _, _, rfl⟩
      have HC : Hid (Calls Tryz.prog 29 #[.string ⟨s.toArray⟩, .string ⟨#[10]⟩] wr fun e w' => e = .returned (.tuple #[.string ⟨a.toArray⟩, .string ⟨d.toArray⟩, .bool b]) ∧ Below wr.heap.size wr w') := by
        have := cut_r s wr (HTT.out.below HB.out (Nat.le_refl _)) (by omega)
        rw [hcut] at this
        exact this
      have hal : a.length ≤ s.length := by have := cutR_len s; rw [hcut] at this; exact this
      have HN : Hid (∀ w', TW w' → Calls Tryz.prog 30 #[.string ⟨a.toArray⟩, .string ⟨#[114, 111, 111, 109]⟩, .int .i64 1] w' fun e w2 => Below w'.heap.size w' w2 ∧ NumsP w' w2 e (nums a wRoom 1)) := fun w' h => nums_any a wRoom 1 w' h (by omega) (by decide) (by decide)
      have HPE : Hid (b = false ∨ nums a wRoom 1 = none → parse s = .error 0) := by
        intro h
        unfold parse
        cases b with
        | false => rw [cutR_false hcut]
        | true =>
          rw [(cutR_true hcut).1]
          simp only
          rcases h with h | h
          · cases h
          · rw [h]
      have HPK : Hid (∀ x, b = true → nums a wRoom 1 = some [x] → parse s = match addsK 1 d with
            | .ok l => .ok (x, [] ++ l)
            | .error e => .error e) := by
        intro x hb h
        subst hb
        unfold parse
        rw [(cutR_true hcut).1]
        simp only
        rw [h]
        rfl
      have hdl : b = true → d.length < s.length := fun h => by subst h; exact (cutR_true hcut).2
      clear hcut
      go_wp2_with fail
      refine HC.out.mono ?_
      rintro e w1 ⟨rfl, hb1⟩
      have HT1 := Lib.hid (HTT.out.below (HB.out.trans (hb1.mono HB.out.size)) (Nat.le_refl _))
      have HB1 := Lib.hid (HB.out.trans (hb1.mono HB.out.size))
      clear hb1
      go_wp2_with fail
      refine (HN.out _ HT1.out).mono ?_
      rintro e w2 ⟨hb2, hnp⟩
      have HE := Lib.hid (HB1.out.trans (hb2.mono HB1.out.size))
      have HE' := Lib.hid hb2
      clear hb2
      cases hnn : nums a wRoom 1 with
      | none =>
        rw [hnn] at hnp
        obtain rfl : e = _ := hnp
        have HPX := Lib.hid (HPE.out (.inr hnn))
        clear hnn hdl
        cases b
        · go_wp2_with fail
          refine bodyPost_ret (results_tmp4 rfl _ _ _) rfl ?_
          rw [HPX.out]
          exact ⟨HE.out, rfl⟩
        · go_wp2_with fail
          refine bodyPost_ret (results_tmp4 rfl _ _ _) rfl ?_
          rw [HPX.out]
          exact ⟨HE.out, rfl⟩
      | some ns =>
        rw [hnn] at hnp
        obtain ⟨nv, rfl, hno⟩ := hnp
        have HNO := Lib.hid hno
        cases b
        · have HPX := Lib.hid (HPE.out (.inl rfl))
          clear hnn hdl hno
          go_wp2_with fail
          refine bodyPost_ret (results_tmp4 rfl _ _ _) rfl ?_
          rw [HPX.out]
          exact ⟨HE.out, rfl⟩
        · have hlen := nums_len (by decide) hnn
          obtain ⟨x, rfl⟩ := one_of hlen
          have HPX := Lib.hid (HPK.out x rfl hnn)
          have hdl' := hdl rfl
          obtain ⟨g, cap, rfl⟩ := own_slice hno (Nat.succ_pos _)
          have c0 : w2.cell? ⟨g, 0, none⟩ = some (.int .i64 (x : Int)) := by rw [hno.cellAt 0 (by simp)]; rfl
          clear hnn hdl hno hlen
          go_wp2_with fail
          go_roundw
          case rel => exact ⟨HE.out, 1, d, rfl, rfl, by omega, .inr ⟨x, [], Nat.le_refl _, rfl, rfl, World.ownsRow_nil _ _ _ _, HPX.out⟩⟩
          case measure => simpa [lenOf, ByteArray.size] using hdl'
    · have HKD := Lib.hid hkd
      have hdk : dl.length < k := by omega
      clear hkd
      have q1 : ((k : Int) == 0) = false := by rw [beq_eq_false_iff_ne]; omega
      by_cases hs0 : s = []
      · subst hs0
        have HP0 : Hid (parse t = .ok (r, dl)) := by
          have := HP.out
          rw [addsK_nil] at this
          show _ = _
          simpa using this
        clear HP
        go_wp2_with fail
        refine bodyPost_ret (results_tmp4 rfl _ _ _) rfl ?_
        rw [HP0.out]
        exact ⟨HB.out, _, rfl, HO.out⟩
      · have q2 : (s == []) = false := by rw [beq_eq_false_iff_ne]; exact hs0
        obtain ⟨a, d, b, hcut⟩ : ∃ a d b, cutR s = (a, d, b) := ⟨_, _, _, rfl⟩
        have HC : Hid (Calls Tryz.prog 29 #[.string ⟨s.toArray⟩, .string ⟨#[10]⟩] wr fun e w' => e = .returned (.tuple #[.string ⟨a.toArray⟩, .string ⟨d.toArray⟩, .bool b]) ∧ Below wr.heap.size wr w') := by
          have := cut_r s wr (HTT.out.below HB.out (Nat.le_refl _)) (by omega)
          rw [hcut] at this
          exact this
        have hal : a.length ≤ s.length := by have := cutR_len s; rw [hcut] at this; exact this
        have HN : Hid (∀ w', TW w' → Calls Tryz.prog 30 #[.string ⟨a.toArray⟩, .string ⟨#[97, 100, 100]⟩, .int .i64 2] w' fun e w2 => Below w'.heap.size w' w2 ∧ NumsP w' w2 e (nums a wAdd 2)) := fun w' h => nums_any a wAdd 2 w' h (by omega) (by decide) (by decide)
        have HPE : Hid (b = false ∨ nums a wAdd 2 = none → parse t = .error k) := by
          intro h
          rw [HP.out]
          cases b with
          | false => rw [addsK_none hs0 (cutR_false hcut)]
          | true =>
            rw [addsK_some (cutR_true hcut).1]
            rcases h with h | h
            · cases h
            · rw [h]
        have HPK : Hid (∀ x y, b = true → nums a wAdd 2 = some [x, y] → parse t = match addsK (k + 1) d with
              | .ok l => .ok (r, (dl ++ [(x, y)]) ++ l)
              | .error e => .error e) := by
          intro x y hb h
          subst hb
          rw [HP.out, addsK_some (cutR_true hcut).1]
          rw [h]
          simp only
          cases addsK (k + 1) d with
          | ok l => simp
          | error e => rfl
        clear HP
        have hdl : b = true → d.length < s.length := fun h => by subst h; exact (cutR_true hcut).2
        clear hcut
        clear hs0
        go_wp2_with fail
        refine HC.out.mono ?_
        rintro e w1 ⟨rfl, hb1⟩
        have HT1 := Lib.hid (HTT.out.below (HB.out.trans (hb1.mono HB.out.size)) (Nat.le_refl _))
        have HB1 := Lib.hid (HB.out.trans (hb1.mono HB.out.size))
        have HO1 := Lib.hid (own_below HO.out hb1 (Nat.le_refl _))
        clear hb1
        go_wp2_with fail
        refine (HN.out _ HT1.out).mono ?_
        rintro e w2 ⟨hb2, hnp⟩
        have HE := Lib.hid (HB1.out.trans (hb2.mono HB1.out.size))
        have HE' := Lib.hid hb2
        have HO2 := Lib.hid (own_below HO1.out hb2 (Nat.le_refl _))
        clear hb2
        cases hnn : nums a wAdd 2 with
        | none =>
          rw [hnn] at hnp
          obtain rfl : e = _ := hnp
          have HPX := Lib.hid (HPE.out (.inr hnn))
          clear hnn hdl
          cases b
          · go_wp2_with fail
            refine bodyPost_ret (results_tmp4 rfl _ _ _) rfl ?_
            rw [HPX.out]
            exact ⟨HE.out, rfl⟩
          · go_wp2_with fail
            refine bodyPost_ret (results_tmp4 rfl _ _ _) rfl ?_
            rw [HPX.out]
            exact ⟨HE.out, rfl⟩
        | some ns =>
          rw [hnn] at hnp
          obtain ⟨nv, rfl, hno⟩ := hnp
          have HNO := Lib.hid hno
          cases b
          · have HPX := Lib.hid (HPE.out (.inl rfl))
            clear hnn hdl hno
            go_wp2_with fail
            refine bodyPost_ret (results_tmp4 rfl _ _ _) rfl ?_
            rw [HPX.out]
            exact ⟨HE.out, rfl⟩
          · have hlen := nums_len (by decide) hnn
            obtain ⟨x, y, rfl⟩ := two_of hlen
            have HPX := Lib.hid (HPK.out x y rfl hnn)
            have hdl' := hdl rfl
            obtain ⟨g, cap, rfl⟩ := own_slice hno (Nat.succ_pos _)
            have c0 : w2.cell? ⟨g, 0, none⟩ = some (.int .i64 (x : Int)) := by rw [hno.cellAt 0 (by simp)]; rfl
            have c1 : w2.cell? ⟨g, 1, none⟩ = some (.int .i64 (y : Int)) := by rw [hno.cellAt 1 (by simp)]; rfl
            have hs2 : w.heap.size ≤ w2.heap.size := HE.out.size
            have HK : Hid (dl.length + 1 ≤ 8000000000000) := by show _ ≤ _; omega
            clear hnn hdl hno hlen
            go_wp2_with fail
            go_region_law (refine step_append_lies _ (by rfl) _ _ _ (by rfl) w.heap.size 60 i37 _ 2 16 Tryz.underlying52 hi37 hz0 hz1 hz2 rfl (by omega) u7 dl.length (comeC dl) (by rfl) (World.ownsRow.alloc (w := w2.drew) HO2.out _) ⟨w2.heap.size, 0, none⟩ 1 1 [.int .i64 x, .int .i64 y] (by rfl) (by rfl) (World.news_of_block (cs := #[.int .i64 x, .int .i64 y]) (t := 60) (fr := (0, 0)) (heap_alloc_new w2.drew _)) (by simp [Value.oneCell']) (by omega) (by unfold maxLen; omega) (by omega) (by simp; omega) (w2.heap.size + 1) (by simp) ?_; intro gg cap6 w3 hown3 hgr3 hat3 hlt3)
            all_goals
              have hb3 := grown_below (w := w2.drew) (o := .cells #[.int .i64 x, .int .i64 y] 60) hgr3 (own_drew HO2.out) (Below.refl _ _) (Nat.le_refl _) (by exact hs2)
              have HO3 := Lib.hid hown3
              have HB3 := Lib.hid (HE.out.drew.trans hb3)
              clear hown3 hgr3 hb3 hat3 c0 c1
              go_wp2_with fail
              exact ⟨⟨HB3.out, k + 1, d, rfl, by go_num, by omega, .inr ⟨r, dl ++ [(x, y)], by omega, by have := HKD.out; simp; omega, rfl, by show World.ownsRow _ _ _ _ _ _ _; rw [comeC_app]; simpa using HO3.out, HPX.out⟩⟩, by simpa [lenOf, ByteArray.size] using hdl'⟩
end Go.Proofs.YthaiopgmncnekaaGreatDoor
