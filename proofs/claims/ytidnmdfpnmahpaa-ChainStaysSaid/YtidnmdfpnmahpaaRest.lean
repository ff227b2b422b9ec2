/- chain.Rest: what it answers. No condition. -/
import Derived.Test.YtidnmdfpnmahpaaDet
import Derived.Test.YtidnmdfpnmahpaaLapL
import Derived.Test.YtidnmdfpnmahpaaLow
import Derived.Test.YtidnmdfpnmahpaaWhole
import Derived.Test.YtidnmdfpnmahpaaPush
set_option linter.unusedSimpArgs false
set_option linter.unusedVariables false
set_option maxRecDepth 20000
namespace Go.Proofs.Ytidnmdfpnmahpaa
open Go.RowKit
def outV (M : List (List Int)) (n r : Nat) : Int := detL (n - 1) (lap M n n r) * sumL (M.getD r [])
def outN (M : List (List Int)) (n r : Nat) : Nat := (outV M n r).toNat
def restN (M : List (List Int)) (n : Nat) : List Nat := lowN ((List.range n).map (outN M n))
theorem own_same {w w' : World} {base : Nat} {e : TypeId} {size : Nat} {v : Value} {n : Nat} {xs : List Value} (h : w.ownsRow base e size v n xs) (hs : ∀ g, v.ownBlock = some g → w'.heap[g]? = w.heap[g]?) : w'.ownsRow base e size v n xs := by
  refine ⟨h.1, ?_⟩
  rcases h.2 with hn | ⟨g, cap, cur, rfl, hbs, hgg, rest⟩
  · exact .inl hn
  · exact .inr ⟨g, cap, cur, rfl, hbs, (hs g rfl).trans hgg, rest⟩
theorem idxR_succ (j root : Nat) : idxR (j + 1) root = idxR j root ++ if j = root then [] else [j] := by
  unfold idxR
  rw [List.range_succ, List.filter_append]
  congr 1
  by_cases h : j = root
  · subst h; simp
  · simp [h]
theorem idxR_len : ∀ j root, (idxR j root).length = if root < j then j - 1 else j
  | 0, root => by simp [idxR]
  | j + 1, root => by
    rw [idxR_succ, List.length_append, idxR_len j root]
    by_cases h : j = root
    · subst h; simp
    · rw [if_neg h]
      by_cases h2 : root < j
      · rw [if_pos h2, if_pos (by omega)]; simp; omega
      · rw [if_neg h2, if_neg (by omega)]; simp
theorem lapRow_succ (M : List (List Int)) (j root i : Nat) : lapRow M (j + 1) root i = lapRow M j root i ++ if j = root then [] else [lapE M i j] := by
  unfold lapRow
  rw [idxR_succ, List.map_append]
  congr 1
  split <;> rfl
theorem lap_succ (M : List (List Int)) (n i root : Nat) : lap M n (i + 1) root = lap M n i root ++ if i = root then [] else [lapRow M n root i] := by
  unfold lap
  rw [idxR_succ, List.map_append]
  congr 1
  split <;> rfl
theorem lapE_bd {n : Nat} {M : List (List Int)} (h : Good n M) (i j : Nat) (hi : i < n) (hj : j < n) : -45 ≤ lapE M i j ∧ lapE M i j ≤ 45 := by
  have h1 := h.nn i j
  have h3 := h.nn i i
  obtain ⟨hl, -, h5, hr⟩ := h
  obtain ⟨r1, r2, r3⟩ := hr _ (getD_mem M i [] (by omega))
  have h2 := (r2 _ (getD_mem _ j 0 (by omega))).2
  have hs : sumL (M.getD i []) ≤ 9 * n := by
    have := sumL_bd 9 (M.getD i []) (fun x hx => by have := r2 x hx; omega)
    rw [r1] at this
    omega
  have h4 := r3
  have h6 := (r2 _ (getD_mem _ i 0 (by omega))).2
  unfold lapE
  split
  · omega
  · omega
theorem lap_sq {n : Nat} {M : List (List Int)} (h : Good n M) (r : Nat) (hr : r < n) : Sq (n - 1) (lap M n n r) := by
  refine ⟨?_, fun q hq => ?_⟩
  · unfold lap; rw [List.length_map, idxR_len, if_pos hr]
  · unfold lap at hq
    obtain ⟨i, hi, rfl⟩ := List.mem_map.1 hq
    have hin : i < n := by unfold idxR at hi; exact List.mem_range.1 (List.mem_filter.1 hi).1
    refine ⟨?_, fun x hx => ?_⟩
    · unfold lapRow; rw [List.length_map, idxR_len, if_pos hr]
    · unfold lapRow at hx
      obtain ⟨j, hj, rfl⟩ := List.mem_map.1 hx
      have hjn : j < n := by unfold idxR at hj; exact List.mem_range.1 (List.mem_filter.1 hj).1
      exact lapE_bd h i j hin hjn
theorem outV_nn {n : Nat} {M : List (List Int)} (h : Good n M) (r : Nat) (hr : r < n) : 0 ≤ outV M n r :=
  Int.mul_nonneg (lap_nn h r hr) (by have := (h.2.2.2 _ (getD_mem M r [] (by have := h.1; omega))).2.2; omega)
theorem sum_bd45 {n : Nat} {M : List (List Int)} (h : Good n M) (r : Nat) (hr : r < n) : 0 < sumL (M.getD r []) ∧ sumL (M.getD r []) ≤ 45 := by
  obtain ⟨r1, r2, r3⟩ := h.2.2.2 _ (getD_mem M r [] (by have := h.1; omega))
  have := sumL_bd 9 (M.getD r []) (fun x hx => by have := r2 x hx; omega)
  rw [r1] at this
  have := h.2.2.1
  omega
theorem outV_bd {n : Nat} {M : List (List Int)} (h : Good n M) (r : Nat) (hr : r < n) : outV M n r ≤ 4428675000 := by
  have h1 := (detL_bd (n - 1) _ (lap_sq h r hr)).2
  have h2 := bdD_le (n - 1) (by have := h.2.2.1; omega)
  have h3 := lap_nn h r hr
  obtain ⟨h4, h5⟩ := sum_bd45 h r hr
  unfold outV
  generalize detL (n - 1) (lap M n n r) = D at *
  generalize sumL (M.getD r []) = s at *
  have : D * s ≤ 98415000 * 45 := Int.mul_le_mul (by omega) h5 (by omega) (by decide)
  omega
set_option maxHeartbeats 3200000 in
set_option maxRecDepth 20000 in
theorem rest_run (a : Option Addr) (n c : Nat) (M : List (List Int)) (w : World) (h : RdM w (.slice a n c) M) (hg : Good n M) (hw : wholeF (posM M) n = true) :
    Calls Try.prog 9 #[.slice a n c] w fun e w' => Below w.heap.size w w' ∧ ∃ g cap, e = .returned (.tuple #[.slice (some ⟨g, 0, none⟩) n cap, .int .i64 0]) ∧ Rd w' (.slice (some ⟨g, 0, none⟩) n cap) (castN (restN M n)) := by
  obtain ⟨i3, hi3, hz0, hz1, hz2⟩ := info_parts Try.info3t
  have HWH := Lib.hid (whole_run a n c M w h hg)
  rw [hw] at HWH
  obtain ⟨hl, hc1, hc2⟩ := h.lenEq
  have h1n := hg.2.1
  have h5n := hg.2.2.1
  have HM := Lib.hid h
  have HG : Hid (∀ i, i < n → (M.getD i []).length = n ∧ (∀ x ∈ M.getD i [], 0 ≤ x ∧ x ≤ 9)) := fun i hi => by
    obtain ⟨r1, r2, -⟩ := hg.2.2.2 _ (getD_mem M i [] (by omega))
    exact ⟨r1, r2⟩
  have HLE : Hid (∀ i j, lapE M i j = if i = j then sumL (M.getD i []) - (M.getD i []).getD i 0 else -((M.getD i []).getD j 0)) := fun i j => rfl
  have HRS := Lib.hid (lapRow_succ M)
  have HLS := Lib.hid (lap_succ M n)
  have HSQ := Lib.hid (lap_sq hg)
  have HOV : Hid (∀ r, r < n → 0 ≤ outV M n r ∧ outV M n r ≤ 4428675000) := fun r hr => ⟨outV_nn hg r hr, outV_bd hg r hr⟩
  have HSB := Lib.hid (sum_bd45 hg)
  have HDB : Hid (∀ r, r < n → 0 ≤ detL (n - 1) (lap M n n r) ∧ detL (n - 1) (lap M n n r) ≤ 98415000) := fun r hr => ⟨lap_nn hg r hr, Int.le_trans (detL_bd _ _ (lap_sq hg r hr)).2 (bdD_le _ (by omega))⟩
  have HOE : Hid (∀ r, outV M n r = detL (n - 1) (lap M n n r) * sumL (M.getD r [])) := fun r => rfl
  have HON : Hid (∀ r, r < n → ((outN M n r : Nat) : Int) = outV M n r) := fun r hr => Int.toNat_of_nonneg (outV_nn hg r hr)
  have HRL : Hid (∀ i root j, j ≤ n → (lapRow M j root i).length ≤ 5) := fun i root j hj => by
    show _ ≤ _
    unfold lapRow; rw [List.length_map, idxR_len]; split <;> omega
  have HLL : Hid (∀ root i, i ≤ n → (lap M n i root).length ≤ 5) := fun root i hi => by
    show _ ≤ _
    unfold lap; rw [List.length_map, idxR_len]; split <;> omega
  clear hw h hg hl
  go_enter Try.func9, Try.ntmps9
  go_wp2_with fail
  refine HWH.out.mono ?_
  rintro e w1 ⟨rfl, hb1⟩
  have HB1 := Lib.hid hb1
  clear hb1
  go_wp2_with fail
  go_loopw [28, 7] (fun rv ov wr => ∃ r : Nat, r ≤ n ∧ rv = .int .i64 r ∧ Hid (wr.ownsRow w.heap.size 3 1 ov r ((castN ((List.range r).map (outN M n))).map (Value.int .i64))) ∧ Hid (Below w.heap.size w wr)) (fun rv _ _ => n - (intOf rv).toNat)
  case atStart => exact ⟨0, Nat.zero_le _, rfl, World.ownsRow_nil _ _ _ _, HB1.out⟩
  case round =>
    clear HB1
    obtain ⟨r, hrn, rfl, HO, HB⟩ := hrel
    by_cases hrl : r < n
    · have hrI : (r : Int) < (n : Int) := by omega
      obtain ⟨wr0, rfl⟩ : ∃ wr0 : World, wr0 = wr := ⟨_, rfl⟩
      have HM0 : Hid (OM wr0 wr0.heap.size (.slice none 0 0) (lap M n 0 r)) := OM.nil _ _
      have HB0 : Hid (Below wr0.heap.size wr0 wr0) := Below.refl _ _
      go_wp2_with fail
      go_loopw [32, 9] (fun iv mv wr => ∃ i : Nat, i ≤ n ∧ iv = .int .i64 i ∧ Hid (OM wr wr0.heap.size mv (lap M n i r)) ∧ Hid (Below wr0.heap.size wr0 wr)) (fun iv _ _ => n - (intOf iv).toNat)
      case atStart => exact ⟨0, Nat.zero_le _, rfl, HM0.out, HB0.out⟩
      case round =>
        clear HM0 HB0
        obtain ⟨i, hin, rfl, HMv, HBi⟩ := hrel
        by_cases hil : i < n
        · have hiI : (i : Int) < (n : Int) := by omega
          have hls := HLS.out i r
          by_cases hir : i = r
          · have hirI : ((i : Int) == (r : Int)) = true := by rw [beq_iff_eq]; omega
            rw [if_pos hir, List.append_nil] at hls
            have HLi := Lib.hid hls
            clear hls hir
            go_wp2_with fail
            go_roundw
            case rel => exact ⟨i + 1, by omega, by go_num, by rw [HLi.out]; exact HMv.out, HBi.out⟩
            case measure => simp [intOf]; omega
          · have hirI : ((i : Int) == (r : Int)) = false := by rw [beq_eq_false_iff_ne]; omega
            rw [if_neg hir] at hls
            have HLi := Lib.hid hls
            obtain ⟨b, off, a', c', rfl, hb, cr0, hr0⟩ := HM.out.row hil
            obtain ⟨hgl, hgx⟩ := HG.out i hil
            have HLEi := Lib.hid (HLE.out i)
            have HSBi := HSB.out i hil
            have HRSi := Lib.hid (fun j => HRS.out j r i)
            obtain ⟨q, hq⟩ : ∃ q, M.getD i [] = q := ⟨_, rfl⟩
            rw [hq] at HLEi cr0 hr0 hgl hgx HSBi
            rw [hgl] at cr0 hr0
            have HGL := Lib.hid hgl
            have HGX := Lib.hid hgx
            have HQ := Lib.hid hr0
            have hbw : b < w.heap.size := hb
            have hws := HB.out.size
            obtain ⟨b2, off2, rfl, hb2, hcc⟩ := hr0.at (by omega)
            have HCC := Lib.hid hcc
            have HBw : Hid (Below w.heap.size w wr) := HB.out.trans (HBi.out.mono HB.out.size)
            have HCR : Hid (∀ X, Below wr.heap.size wr X → X.cell? ⟨b, off + i, none⟩ = some (.slice (some ⟨b2, off2, none⟩) n c') ∧ ∀ j, j < n → X.cell? ⟨b2, off2 + j, none⟩ = some (.int .i64 (q.getD j 0))) := fun X hX => by
              have hBX : Below w.heap.size w X := HBw.out.trans (hX.mono HBw.out.size)
              exact ⟨(World.cell?_of_block (hBX.block b hbw)).trans cr0, fun j hj => (World.cell?_of_block (hBX.block b2 hb2)).trans (HCC.out j hj)⟩
            have HSU : Hid (∀ X, Below wr.heap.size wr X → Calls Try.prog 19 #[.slice (some ⟨b2, off2, none⟩) n c'] X fun e w' => e = .returned (.int .i64 (sumL q)) ∧ X = w') := fun X hX => sum_any _ n c' q X (HQ.out.below (HBw.out.trans (hX.mono HBw.out.size)) (Nat.le_refl _)) (fun x hx => by have := HGX.out x hx; omega) (by omega)
            clear hls hir hq cr0 hr0 hgl hgx hcc
            obtain ⟨S, hS⟩ : ∃ S, sumL q = S := ⟨_, rfl⟩
            rw [hS] at HSBi HLEi HSU
            obtain ⟨s0, s45⟩ := HSBi
            clear hS
            obtain ⟨wi, rfl⟩ : ∃ wi : World, wi = wr := ⟨_, rfl⟩
            have HR0 : Hid (wi.ownsRow wi.heap.size 3 1 (.slice none 0 0) (lapRow M 0 r i).length ((lapRow M 0 r i).map (Value.int .i64))) := World.ownsRow_nil _ _ _ _
            have HBB : Hid (Below wi.heap.size wi wi) := Below.refl _ _
            go_wp2_with fail
            go_loopw [39, 11] (fun jv rv wr => ∃ j : Nat, j ≤ n ∧ jv = .int .i64 j ∧ Hid (wr.ownsRow wi.heap.size 3 1 rv (lapRow M j r i).length ((lapRow M j r i).map (Value.int .i64))) ∧ Hid (Below wi.heap.size wi wr)) (fun jv _ _ => n - (intOf jv).toNat)
            case atStart => exact ⟨0, Nat.zero_le _, rfl, HR0.out, HBB.out⟩
            case round =>
              clear HR0 HBB
              obtain ⟨j, hjn, rfl, HRo, HBj⟩ := hrel
              by_cases hjl : j < n
              · have hjI : (j : Int) < (n : Int) := by omega
                have hrs := HRSi.out j
                have hrl5 := HRL.out i r j hjn
                by_cases hjr : j = r
                · have hjrI : ((j : Int) == (r : Int)) = true := by rw [beq_iff_eq]; omega
                  rw [if_pos hjr, List.append_nil] at hrs
                  have HRj := Lib.hid hrs
                  clear hrs hjr
                  go_wp2_with fail
                  go_roundw
                  case rel => exact ⟨j + 1, by omega, by go_num, by rw [HRj.out]; exact HRo.out, HBj.out⟩
                  case measure => simp [intOf]; omega
                · have hjrI : ((j : Int) == (r : Int)) = false := by rw [beq_eq_false_iff_ne]; omega
                  rw [if_neg hjr] at hrs
                  have HRj := Lib.hid hrs
                  have hle := HLEi.out j
                  obtain ⟨y1, y2⟩ := HGX.out (q.getD j 0) (getD_mem q j 0 (by rw [HGL.out]; exact hjl))
                  obtain ⟨z1, z2⟩ := HGX.out (q.getD i 0) (getD_mem q i 0 (by rw [HGL.out]; exact hil))
                  obtain ⟨cr, hcj⟩ := HCR.out wr HBj.out
                  have cj := hcj j hjl
                  have ci := hcj i hil
                  obtain ⟨av, kv, rfl⟩ := own_slice HRo.out
                  have hbs := HBj.out.size
                  clear hrs hjr hcj
                  generalize lapRow M j r i = L at *
                  generalize q.getD j 0 = y at *
                  generalize q.getD i 0 = z at *
                  by_cases hij : i = j
                  · have hijI : ((i : Int) == (j : Int)) = true := by rw [beq_iff_eq]; omega
                    rw [if_pos hij] at hle
                    have HE := Lib.hid hle
                    clear hle hij
                    have hsw : IntKind.i64.wrap (S - z) = S - z := by rw [IntKind.wrap_i64]; omega
                    have HSUd := Lib.hid (HSU.out wr.drew HBj.out.drew)
                    have HRod := Lib.hid (own_drew HRo.out)
                    have hbsd : wi.heap.size ≤ wr.drew.heap.size := hbs
                    go_wp2_with fail
                    go_region_law (first
                      | (refine step_push (w := wr.drew) rfl _ _ (by rfl) wi.heap.size (.slice av L.length kv) L.length L (by rfl) HRod.out (S - z) _ (by rfl) (by rfl) (by omega) hbsd ?_; intro v9 w9 ho9 hg9)
                      | (go_simp; go_at_call 19; (with_reducible refine HSUd.out.mono ?_); rintro e w' ⟨rfl, rfl⟩))
                    all_goals
                      have HRn : Hid (w9.ownsRow wi.heap.size 3 1 v9 (lapRow M (j + 1) r i).length ((lapRow M (j + 1) r i).map (Value.int .i64))) := by
                        show World.ownsRow _ _ _ _ _ _ _
                        rw [HRj.out, HE.out, List.length_append]; exact ho9
                      have HBn : Hid (Below wi.heap.size wi w9) := grown_below (w := wr.drew) hg9 HRod.out HBj.out.drew (Nat.le_refl _) hbsd
                      clear ho9 hg9
                      go_wp2_with fail
                      exact ⟨⟨j + 1, by omega, by go_num, HRn.out, HBn.out⟩, by simp [intOf]; omega⟩
                  · have hijI : ((i : Int) == (j : Int)) = false := by rw [beq_eq_false_iff_ne]; omega
                    rw [if_neg hij] at hle
                    have HE := Lib.hid hle
                    clear hle hij
                    have hyw : wrap64 (-y) = -y := by unfold wrap64; omega
                    go_wp2_with (at_builtin; go_must (refine push rfl _ _ 24 rfl wi.heap.size 3 i3 (.int .i64 0) 8 Try.underlying24 hi3 hz0 hz1 hz2 rfl _ L.length (L.map (Value.int .i64)) rfl HRo.out (.int .i64 (-y)) wr.heap.size rfl rfl rfl (by decide) (by omega) hbs ?_))
                    intro v9 w9 ho9 hg9
                    rw [show L.map (Value.int .i64) ++ [Value.int .i64 (-y)] = (L ++ [-y]).map (Value.int .i64) by simp] at ho9
                    have HRn : Hid (w9.ownsRow wi.heap.size 3 1 v9 (lapRow M (j + 1) r i).length ((lapRow M (j + 1) r i).map (Value.int .i64))) := by
                      show World.ownsRow _ _ _ _ _ _ _
                      rw [HRj.out, HE.out, List.length_append]; exact ho9
                    have HBn : Hid (Below wi.heap.size wi w9) := grown_below hg9 HRo.out HBj.out (Nat.le_refl _) hbs
                    clear ho9 hg9
                    go_wp2_with fail
                    exact ⟨⟨j + 1, by omega, by go_num, HRn.out, HBn.out⟩, by simp [intOf]; omega⟩
              · obtain rfl : j = n := by omega
                obtain ⟨av, kv, rfl⟩ := own_slice HRo.out
                have hm : wr0.heap.size ≤ wi.heap.size := HBi.out.size
                have hbs := HBj.out.size
                have HMx := Lib.hid (HMv.out.below HBj.out (Nat.le_refl _))
                have HRA := Lib.hid ((RowAt.own HRo.out).lower hm)
                have hll5 := HLL.out r i hin
                have hb0 : wr0.heap.size ≤ wr.heap.size := Nat.le_trans hm hbs
                have HLL5 : Hid ((lap M j i r).length + 1 ≤ 1000000000000) := by show _ ≤ _; omega
                clear hll5
                go_wp2_with (at_builtin; go_must (refine push_row rfl _ _ rfl wr0.heap.size _ _ rfl HMx.out _ (lapRow M j r i) HRA.out _ rfl rfl HLL5.out hb0 ?_))
                intro v9 w9 ho9 hb9
                have HMn : Hid (OM w9 wr0.heap.size v9 (lap M j (i + 1) r)) := by show OM _ _ _ _; rw [HLi.out]; exact ho9
                have HBn : Hid (Below wr0.heap.size wr0 w9) := (HBi.out.trans (HBj.out.mono hm)).trans hb9
                clear ho9 hb9
                go_wp2_with fail
                exact ⟨⟨i + 1, by omega, by go_num, HMn.out, HBn.out⟩, by simp [intOf]; omega⟩
        · obtain rfl : i = n := by omega
          obtain ⟨b, off, a', c', rfl, hb, cr0, hr0⟩ := HM.out.row hrl
          obtain ⟨hgl, hgx⟩ := HG.out r hrl
          have hoe := HOE.out r
          have hon := HON.out r hrl
          obtain ⟨d0, d9⟩ := HDB.out r hrl
          obtain ⟨s0, s45⟩ := HSB.out r hrl
          obtain ⟨p0, p9⟩ := HOV.out r hrl
          obtain ⟨q, hq⟩ : ∃ q, M.getD r [] = q := ⟨_, rfl⟩
          rw [hq] at cr0 hr0 hgl hgx hoe s0 s45
          rw [hgl] at cr0 hr0
          have hbw : b < w.heap.size := hb
          have hws := HB.out.size
          have HBw : Hid (Below w.heap.size w wr) := HB.out.trans (HBi.out.mono HB.out.size)
          have HCR : Hid (∀ X, Below w.heap.size w X → X.cell? ⟨b, off + r, none⟩ = some (.slice a' i c')) := fun X hX => (World.cell?_of_block (hX.block b hbw)).trans cr0
          have cr := HCR.out wr HBw.out
          have HSU : Hid (∀ X, Below w.heap.size w X → Calls Try.prog 19 #[.slice a' i c'] X fun e w' => e = .returned (.int .i64 (sumL q)) ∧ X = w') := fun X hX => sum_any _ i c' q X (hr0.below hX (Nat.le_refl _)) (fun x hx => by have := hgx x hx; omega) (by omega)
          have hrd := HMv.out.rd
          have hsq := HSQ.out r hrl
          obtain ⟨am, cm, hvm, -, -⟩ := hrd.open
          have hml : (lap M i i r).length = i - 1 := hsq.1
          rw [hml] at hvm
          subst hvm
          have HDT : Hid (Calls Try.prog 20 #[.slice am (i - 1) cm] wr.drew fun e w' => e = .returned (.int .i64 (detL (i - 1) (lap M i i r))) ∧ Below wr.drew.heap.size wr.drew w') := det_any (i - 1) (by omega) am cm _ wr.drew (hrd.below ((Below.refl _ _).drew) (Nat.le_refl _)) hsq
          have hOx : wr.ownsRow w.heap.size 3 1 u7 r ((castN ((List.range r).map (outN M i))).map (Value.int .i64)) := own_same HO.out (fun g hgo => HBi.out.block g (HO.out.lt g hgo).2)
          obtain ⟨ao, ko, rfl⟩ := own_slice hOx
          have HOx := Lib.hid hOx
          have HCA : Hid (castN ((List.range (r + 1)).map (outN M i)) = castN ((List.range r).map (outN M i)) ++ [outV M i r]) := by
            show _ = _
            rw [List.range_succ, List.map_append, ← hon]
            unfold castN
            rw [List.map_append]; rfl
          clear hq cr0 hr0 hgl hgx hrd hsq hml hon hOx
          obtain ⟨D, hD⟩ : ∃ D, detL (i - 1) (lap M i i r) = D := ⟨_, rfl⟩
          obtain ⟨S, hS⟩ : ∃ S, sumL q = S := ⟨_, rfl⟩
          obtain ⟨P, hP⟩ : ∃ P, outV M i r = P := ⟨_, rfl⟩
          rw [hP] at p0 p9 hoe HCA
          rw [hD] at hoe d0 d9 HDT
          rw [hS] at hoe s0 s45 HSU
          have hpd : D * S = P := hoe.symm
          have hpw : IntKind.i64.wrap P = P := by rw [IntKind.wrap_i64]; omega
          clear hD hS hP hoe
          generalize castN ((List.range r).map (outN M i)) = L at *
          go_wp2_with fail
          go_region_law (first
            | (refine step_push (w := w5) rfl _ _ (by rfl) w.heap.size (.slice ao r ko) r L (by rfl) ho5 P _ (by rfl) (by rfl) (by omega) hbs5 ?_; intro v9 w9 ho9 hg9)
            | (go_simp; go_at_call 20; (with_reducible refine HDT.out.mono ?_); rintro e w5 ⟨rfl, hb5⟩; (have hB5 : Below w.heap.size w w5 := HBw.out.drew.trans (hb5.mono HBw.out.size)); (have cr5 := HCR.out w5 hB5); (have ho5 := own_below HOx.out.drew hb5 (Nat.le_refl _)); (have hbs5 := hB5.size))
            | (go_simp; go_at_call 19; (with_reducible refine (HSU.out w5 hB5).mono ?_); rintro e w' ⟨rfl, rfl⟩))
          all_goals
            have HOn : Hid (w9.ownsRow w.heap.size 3 1 v9 (r + 1) ((castN ((List.range (r + 1)).map (outN M i))).map (Value.int .i64))) := by
              show World.ownsRow _ _ _ _ _ _ _
              rw [HCA.out]; exact ho9
            have HBn : Hid (Below w.heap.size w w9) := grown_below (w := w5) hg9 ho5 hB5 (Nat.le_refl _) hbs5
            clear ho9 hg9 ho5 hB5 hbs5 cr5 hb5
            go_wp2_with fail
            exact ⟨⟨r + 1, by omega, by go_num, HOn.out, HBn.out⟩, by simp [intOf]; omega⟩
    · obtain rfl : r = n := by omega
      obtain ⟨g, cap, hgv, hg1, hg2, hg3, hg4, -⟩ := own_open HO.out (by omega)
      subst hgv
      have HLW := Lib.hid (low_any w.heap.size g r cap ((List.range r).map (outN M r)) wr HO.out (fun x hx => by
        obtain ⟨y, hy, rfl⟩ := List.mem_map.1 hx
        have h1 := HON.out y (List.mem_range.1 hy)
        have h2 := (HOV.out y (List.mem_range.1 hy)).2
        omega) (by omega))
      have hg3' := hg3
      clear hg1 hg2 hg4
      go_wp2_with fail
      refine HLW.out.mono ?_
      rintro e w5 ⟨rfl, ho5, hb5⟩
      have HB5 := Lib.hid (HB.out.trans (hb5.mono hg3'))
      have HR5 : Hid (Rd w5 (.slice (some ⟨g, 0, none⟩) r cap) (castN (restN M r))) := Rd.own ho5
      clear ho5 hb5
      go_wp2_with fail
      go_ret2
      exact ⟨HB5.out, g, cap, rfl, HR5.out⟩
theorem rest_none (a : Option Addr) (n c : Nat) (M : List (List Int)) (w : World) (h : RdM w (.slice a n c) M) (hg : Good n M) (hw : wholeF (posM M) n = false) :
    Calls Try.prog 9 #[.slice a n c] w fun e w' => e = .returned (.tuple #[.slice none 0 0, .int .i64 3]) ∧ Below w.heap.size w w' := by
  have HWH := Lib.hid (whole_run a n c M w h hg)
  rw [hw] at HWH
  clear hw h hg
  go_enter Try.func9, Try.ntmps9
  go_wp2_with fail
  refine HWH.out.mono ?_
  rintro e w1 ⟨rfl, hb1⟩
  go_wp2_with fail
  go_ret2
  exact ⟨rfl, hb1⟩
theorem rest_err (a : Option Addr) (n c : Nat) (M : List (List Int)) (w : World) (h : RdM w (.slice a n c) M) (hg : wrongN M ≠ 0) :
    Calls Try.prog 9 #[.slice a n c] w fun e w' => e = .returned (.tuple #[.slice none 0 0, .int .i64 (wrongN M : Nat)]) ∧ w = w' := by
  have HWH := Lib.hid (whole_err a n c M w h hg)
  generalize wrongN M = e at *
  have he : ((e : Int) != 0) = true := by rw [bne_iff_ne]; omega
  clear hg h
  go_enter Try.func9, Try.ntmps9
  go_wp2_with fail
  refine HWH.out.mono ?_
  rintro e w1 ⟨rfl, rfl⟩
  go_wp2_with fail
  go_ret2
  exact ⟨rfl, rfl⟩
end Go.Proofs.Ytidnmdfpnmahpaa
