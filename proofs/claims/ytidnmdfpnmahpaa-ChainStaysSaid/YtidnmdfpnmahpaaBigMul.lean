/- (*Int).Mul: what it leaves. Condition: no more than four digits each. -/
import Derived.Test.YtidnmdfpnmahpaaBigAdd
import Derived.BigRegion
set_option linter.unusedSimpArgs false
set_option linter.unusedVariables false
set_option maxRecDepth 20000
namespace Go.Proofs.Ytidnmdfpnmahpaa.Big
open Go.RowKit
theorem mk_run (N : Nat) (hN : N ≤ 8) (w : World) : (Instr.makeSlice 44 (.int .i64 (N : Int)) (.int .i64 (N : Int))).run Try.prog w = .ok (.slice (some ⟨w.heap.size, 0, none⟩) N N) (w.alloc (.cells (madeCells #[.int .u32 0] N) 67)) := by
  obtain ⟨i0, hinfo, hz0, hz1, hz2⟩ := info_parts Try.info67
  have := run_make (P := Try.prog) w 44 67 i0 (.int .u32 0) Try.underlying44 hinfo hz0 .i64 .i64 (N : Int) (N : Int) (by omega) (Int.le_refl _) (by rw [hz2]; omega) (by omega)
  rw [Int.toNat_natCast, hz1, Nat.mul_one] at this
  exact this
theorem mul_dig {c x y o : Nat} (hc : c < 4294967296) (hx : x < 4294967296) (hy : y < 4294967296) (ho : o < 4294967296) : x * y ≤ 18446744065119617025 ∧ o + x * y + c < 18446744073709551616 := by
  have := mul_bd hx hy rfl
  omega
set_option maxHeartbeats 3200000 in
theorem mul_any (zb zo m xb xo yb yo : Nat) (nx ny : Bool) (X Y : Nat) (w : World) (hB : Box w zb m) (ho : zo + 1 < m) (hx : NA w xb xo nx X) (hy : NA w yb yo ny Y) (hX : X < 340282366920938463463374607431768211456) (hY : Y < 340282366920938463463374607431768211456) :
    Calls Try.prog 31 #[.pointer (some ⟨zb, zo, none⟩), .pointer (some ⟨xb, xo, none⟩), .pointer (some ⟨yb, yo, none⟩)] w fun e w' => e = .returned (.pointer (some ⟨zb, zo, none⟩)) ∧ PutN w w' zb zo (sgT (nx != ny) (X * Y)) (X * Y) := by
  obtain ⟨a, c, ds, c0, c1, hrd, hcn, hv, h1, h2, h3⟩ := hx.open
  obtain ⟨a', c', es, d0, d1, hrd', hcn', hv', h1', h2', h3'⟩ := hy.open
  have hzl := hB.lt
  have f0 := hB.fr zo
  have f1 := hB.fr (zo + 1)
  have hxl := hx.lt
  have hyl := hy.lt
  obtain ⟨cs, t, hh, hs, hk⟩ := hB
  have HBX : Hid (Box w zb m) := ⟨cs, t, hh, hs, hk⟩
  have z0 : w.cell? ⟨zb, zo, none⟩ = some cs[zo] := by rw [cell_of_row _ _ _ _ _ _ hh]; exact Array.getElem?_eq_getElem (by omega)
  have z1 : w.cell? ⟨zb, zo + 1, none⟩ = some cs[zo + 1] := by rw [cell_of_row _ _ _ _ _ _ hh]; exact Array.getElem?_eq_getElem (by omega)
  generalize cs[zo] = u0 at *
  generalize cs[zo + 1] = u1 at *
  have hl4 := len4 hcn hv hX
  have hl4' := len4 hcn' hv' hY
  have HXW := Lib.hid hcn.wd
  have HYW := Lib.hid hcn'.wd
  have HVX := Lib.hid hv
  have HVY := Lib.hid hv'
  have HRX := Lib.hid hrd
  have HRY := Lib.hid hrd'
  obtain ⟨n, hn⟩ : ∃ n, ds.length = n := ⟨_, rfl⟩
  obtain ⟨k, hk'⟩ : ∃ k, es.length = k := ⟨_, rfl⟩
  have HXL := Lib.hid hn
  have HYL := Lib.hid hk'
  rw [hn] at c1 h1 hl4 HRX
  rw [hk'] at d1 h1' hl4' HRY
  have HAFT : Hid (∀ w1, Below w.heap.size w w1 → (w1.cell? ⟨xb, xo, none⟩ = some (.bool nx) ∧ w1.cell? ⟨xb, xo + 1, none⟩ = some (.slice a n c) ∧ w1.cell? ⟨yb, yo, none⟩ = some (.bool ny) ∧ w1.cell? ⟨yb, yo + 1, none⟩ = some (.slice a' k c')) ∧ w1.cell? ⟨zb, zo, none⟩ = some u0 ∧ w1.cell? ⟨zb, zo + 1, none⟩ = some u1 ∧ w1.frozen? ⟨zb, zo, none⟩ = false ∧ w1.frozen? ⟨zb, zo + 1, none⟩ = false) := fun w1 hb =>
    ⟨⟨(World.cell?_of_block (hb.block _ hxl)).trans c0, (World.cell?_of_block (hb.block _ hxl)).trans c1, (World.cell?_of_block (hb.block _ hyl)).trans d0, (World.cell?_of_block (hb.block _ hyl)).trans d1⟩, (World.cell?_of_block (hb.block _ hzl)).trans z0, (World.cell?_of_block (hb.block _ hzl)).trans z1, (World.frozen?_of_block (hb.block _ hzl)).trans f0, (World.frozen?_of_block (hb.block _ hzl)).trans f1⟩
  clear hrd hcn hv hrd' hcn' hv' h3 h3' hh hs hk hx hy hn hk'
  obtain ⟨N, hN⟩ : ∃ N, n + k = N := ⟨_, rfl⟩
  have hmk := fun w => mk_run N (by omega) w
  have e1 : (n : Int) + (k : Int) = (N : Int) := by omega
  have e2 : IntKind.i64.wrap (N : Int) = (N : Int) := by rw [IntKind.wrap_i64]; omega
  go_enter Try.func31, Try.ntmps31
  go_wp2_with fail
  go_region
  go_wp2_with fail
  clear hmk
  have HB0 : Hid (Below w.heap.size w (w.alloc (.cells (madeCells #[.int .u32 0] N) 67)).drew) := ((Below.refl _ _).alloc (Nat.le_refl _) _).drew
  have HO0 : Hid (World.ownsRow (w.alloc (.cells (madeCells #[.int .u32 0] N) 67)).drew w.heap.size 67 1 (.slice (some ⟨w.heap.size, 0, none⟩) N N) N ((castN (List.replicate N 0)).map (Value.int .u32))) := by
    have := World.ownsRow_lit (base := w.heap.size) (e := 67) (size := 1) w (madeCells #[.int .u32 0] N) N (Nat.le_refl _) (by unfold maxLen; omega) (by rw [size_madeCells]; simp)
    rw [zeros_eq, castN_zeros] at this
    exact own_drew this
  obtain ⟨g, hg⟩ : ∃ g, w.heap.size = g := ⟨_, rfl⟩
  have HG := Lib.hid hg
  rw [hg] at HB0 HO0 hxl hyl hzl ⊢
  clear hg
  obtain ⟨w0, hw0⟩ : ∃ w0, (w.alloc (.cells (madeCells #[.int .u32 0] N) 67)).drew = w0 := ⟨_, rfl⟩
  rw [hw0] at HB0 HO0 ⊢
  clear hw0 c0 c1 d0 d1 z0 z1 f0 f1
  go_loopw [30, 8, 9, 10, 11, 12, 40] (fun iv _ _ _ _ _ _ wr => ∃ (i : Nat) (o : List Nat), i ≤ n ∧ iv = .int .i64 i ∧ Hid (o.length = N) ∧ Hid (Wd o) ∧ Hid (∀ q, i + k ≤ q → o.getD q 0 = 0) ∧ Hid (val o = val (ds.take i) * val es) ∧ Hid (wr.ownsRow g 67 1 (.slice (some ⟨g, 0, none⟩) N N) N ((castN o).map (Value.int .u32))) ∧ Hid (Below g w wr)) (fun iv _ _ _ _ _ _ _ => n - (intOf iv).toNat)
  case atStart => exact ⟨0, List.replicate N 0, Nat.zero_le _, rfl, by show _ = _; simp, wd_zeros _, fun q _ => zeros_get _ q, by show _ = _; rw [val_zeros]; simp [val], HO0.out, HB0.out⟩
  case round =>
    clear HO0 HB0
    obtain ⟨i, o, hi, rfl, HOL, HOW, HOZ, HV, HO, HB⟩ := hrel
    have HBw : Hid (Below w.heap.size w wr) := by rw [HG.out]; exact HB.out
    obtain ⟨⟨p0, p1, p2, p3⟩, p4, p5, p6, p7⟩ := HAFT.out _ HBw.out
    by_cases hin : i < n
    · have hin2 : (i : Int) < (n : Int) := by omega
      obtain ⟨b, off, rfl, hb, hcc⟩ := HRX.out.at (by omega)
      have cx : wr.cell? ⟨b, off + i, none⟩ = _ := (World.cell?_of_block (HBw.out.block b hb)).trans (hcc i hin)
      have hxlt := getD_lt HXW.out i
      have HVT := Lib.hid (val_take ds i)
      clear hcc
      generalize ds.getD i 0 = x at *
      go_wp2_with fail
      clear p0 p1 p2 p3 p4 p5 p6 p7 cx
      obtain ⟨wo, hwo⟩ : ∃ wo, wo = wr := ⟨_, rfl⟩
      subst hwo
      go_loopw [40, 10, 11, 12] (fun jv cv _ _ wq => ∃ (j cc : Nat) (o2 : List Nat), j ≤ k ∧ jv = .int .i64 j ∧ cv = .int .u64 cc ∧ cc < 4294967296 ∧ Hid (o2.length = N) ∧ Hid (Wd o2) ∧ Hid (∀ q, i + k ≤ q → o2.getD q 0 = 0) ∧ Hid (val o2 + 4294967296 ^ (i + j) * cc = val (ds.take i) * val es + 4294967296 ^ i * (x * val (es.take j))) ∧ Hid (wq.ownsRow g 67 1 (.slice (some ⟨g, 0, none⟩) N N) N ((castN o2).map (Value.int .u32))) ∧ Hid (Below g w wq)) (fun jv _ _ _ _ => k - (intOf jv).toNat)
      case atStart => exact ⟨0, 0, o, Nat.zero_le _, rfl, rfl, by decide, HOL.out, HOW.out, HOZ.out, by show _ = _; rw [HV.out]; simp [val], HO.out, HB.out⟩
      case round =>
        clear HV HO HB HOL HOW HOZ
        obtain ⟨j, cc, o2, hj, rfl, rfl, hcc, HOL, HOW, HOZ, HV, HO, HB⟩ := hrel
        have HBv : Hid (Below w.heap.size w wr) := by rw [HG.out]; exact HB.out
        obtain ⟨⟨p0, p1, p2, p3⟩, p4, p5, p6, p7⟩ := HAFT.out _ HBv.out
        by_cases hjk : j < k
        · have hjk2 : (j : Int) < (k : Int) := by omega
          obtain ⟨b', off', rfl, hb', hcy⟩ := HRY.out.at (by omega)
          have cy : wr.cell? ⟨b', off' + j, none⟩ = _ := (World.cell?_of_block (HBv.out.block b' hb')).trans (hcy j hjk)
          have hylt := getD_lt HYW.out j
          have co := own_get HO.out (i + j) (by omega)
          rw [castN_get] at co
          have fo := World.ownsRow.frozenAt HO.out (i + j)
          have holt := getD_lt HOW.out (i + j)
          have HST : Hid (∀ s q r : Nat, s = o2.getD (i + j) 0 + x * es.getD j 0 + cc → r + 4294967296 * q = s → r < 4294967296 → Hid ((o2.set (i + j) r).length = N) ∧ Hid (Wd (o2.set (i + j) r)) ∧ Hid (∀ q, i + k ≤ q → (o2.set (i + j) r).getD q 0 = 0) ∧ Hid (val (o2.set (i + j) r) + 4294967296 ^ (i + (j + 1)) * q = val (ds.take i) * val es + 4294967296 ^ i * (x * val (es.take (j + 1)))) ∧ Hid (World.ownsRow (wr.setCell ⟨g, i + j, none⟩ (.int .u32 (r : Int))) g 67 1 (.slice (some ⟨g, 0, none⟩) N N) N ((castN (o2.set (i + j) r)).map (Value.int .u32))) ∧ Hid (Below g w (wr.setCell ⟨g, i + j, none⟩ (.int .u32 (r : Int))))) := fun s q r h1 h2 h3 => by
            refine ⟨by show _ = _; rw [List.length_set]; exact HOL.out, wd_set HOW.out _ h3, fun q' hq' => ?_, ?_, ?_, HB.out.setCell (Nat.le_refl _) _⟩
            · rw [getD_set_ne _ _ (by omega)]; exact HOZ.out q' hq'
            · show _ = _
              have h4 := val_set o2 (i + j) r (by rw [HOL.out]; omega)
              have h5 := HV.out
              rw [Nat.pow_add] at h4 h5
              rw [val_take, Nat.pow_add, Nat.pow_succ]
              exact mul_stepB h4 h5 (by rw [h2, h1])
            · have := own_set HO.out (i + j) (r : Int)
              rw [castN_set] at this
              exact this
          clear hcy
          generalize es.getD j 0 = y at *
          generalize o2.getD (i + j) 0 = od at *
          obtain ⟨hpr, hsl⟩ := mul_dig hcc hxlt hylt holt
          obtain ⟨pr, hpre⟩ : ∃ pr, x * y = pr := ⟨_, rfl⟩
          rw [hpre] at hpr hsl HST
          have hpi : (x : Int) * (y : Int) = (pr : Int) := by rw [← hpre, Int.natCast_mul]
          obtain ⟨s, hs⟩ : ∃ s, od + pr + cc = s := ⟨_, rfl⟩
          obtain ⟨q, hqe⟩ : ∃ q, s / 4294967296 = q := ⟨_, rfl⟩
          obtain ⟨r, hre⟩ : ∃ r, s % 4294967296 = r := ⟨_, rfl⟩
          have HD := Lib.hid (HST.out s q r hs.symm (by omega) (by omega))
          have e5 : IntKind.u64.wrap (pr : Int) = (pr : Int) := by rw [IntKind.wrap_u64]; omega
          have e6 : IntKind.u64.wrap ((pr : Int) + (od : Int)) = (pr : Int) + (od : Int) := by rw [IntKind.wrap_u64]; omega
          have e7 : IntKind.u64.wrap ((cc : Int) + ((pr : Int) + (od : Int))) = (s : Int) := by rw [IntKind.wrap_u64]; omega
          have e8 : (cc : Int) + ((pr : Int) + (od : Int)) = (s : Int) := by omega
          have e9 : IntKind.u32.wrap (s : Int) = (r : Int) := by rw [IntKind.wrap_u32]; omega
          have e10 : (s : Int) / 4294967296 = (q : Int) := by omega
          have hqb : q < 4294967296 := by omega
          have e11 : (i : Int) + (j : Int) = ((i + j : Nat) : Int) := by omega
          have e12 : i + j < N := by omega
          have e13 : IntKind.i64.wrap ((i : Int) + (j : Int)) = ((i + j : Nat) : Int) := by rw [IntKind.wrap_i64]; omega
          clear HST hs hqe hre hpre
          obtain ⟨ij, hij⟩ : ∃ ij, i + j = ij := ⟨_, rfl⟩
          rw [hij] at co fo e11 e12 e13 HD
          go_wp2_with fail
          go_roundw
          case rel => exact ⟨j + 1, q, o2.set ij r, by omega, by go_num, rfl, hqb, HD.out⟩
          case measure => simp [intOf]; omega
        · obtain rfl : j = k := by omega
          have co := own_get HO.out (i + j) (by omega)
          rw [castN_get] at co
          have fo := World.ownsRow.frozenAt HO.out (i + j)
          have HD : Hid ((o2.set (i + j) cc).length = N) ∧ Hid (Wd (o2.set (i + j) cc)) ∧ Hid (∀ q, i + 1 + j ≤ q → (o2.set (i + j) cc).getD q 0 = 0) ∧ Hid (val (o2.set (i + j) cc) = val (ds.take (i + 1)) * val es) ∧ Hid (World.ownsRow (wr.setCell ⟨g, i + j, none⟩ (.int .u32 (cc : Int))) g 67 1 (.slice (some ⟨g, 0, none⟩) N N) N ((castN (o2.set (i + j) cc)).map (Value.int .u32))) ∧ Hid (Below g w (wr.setCell ⟨g, i + j, none⟩ (.int .u32 (cc : Int)))) := by
            refine ⟨by show _ = _; rw [List.length_set]; exact HOL.out, wd_set HOW.out _ hcc, fun q' hq' => ?_, ?_, ?_, HB.out.setCell (Nat.le_refl _) _⟩
            · rw [getD_set_ne _ _ (by omega)]; exact HOZ.out q' (by omega)
            · show _ = _
              have h4 := val_set o2 (i + j) cc (by rw [HOL.out]; omega)
              rw [HOZ.out (i + j) (Nat.le_refl _)] at h4
              have h5 := HV.out
              rw [List.take_of_length_le (l := es) (by rw [HYL.out]; exact Nat.le_refl _)] at h5
              rw [HVT.out, Nat.add_mul, Nat.mul_assoc]
              omega
            · have := own_set HO.out (i + j) (cc : Int)
              rw [castN_set] at this
              exact this
          have HDD := Lib.hid HD
          have e9 : IntKind.u32.wrap (cc : Int) = (cc : Int) := by rw [IntKind.wrap_u32]; omega
          have e11 : (i : Int) + (j : Int) = ((i + j : Nat) : Int) := by omega
          have e12 : i + j < N := by omega
          have e13 : IntKind.i64.wrap ((i : Int) + (j : Int)) = ((i + j : Nat) : Int) := by rw [IntKind.wrap_i64]; omega
          clear HD
          obtain ⟨ij, hij⟩ : ∃ ij, i + j = ij := ⟨_, rfl⟩
          rw [hij] at co fo e11 e12 e13 HDD
          generalize o2.getD ij 0 = od at *
          go_wp2_with fail
          go_roundw
          case rel => exact ⟨i + 1, o2.set ij cc, by omega, by go_num, HDD.out⟩
          case measure => simp [intOf]; omega
    · obtain rfl : i = n := by omega
      have HRO : Hid (Rd wr (.slice (some ⟨g, 0, none⟩) N N) (castN o)) := Rd.own HO.out
      have HVE : Hid (val o = X * Y) := by
        show _ = _
        rw [HV.out, List.take_of_length_le (by rw [HXL.out]; exact Nat.le_refl _), HVX.out, HVY.out]
      have hzl2 : zb < w.heap.size := by rw [HG.out]; exact hzl
      have HT : Hid (Calls Try.prog 46 #[.pointer (some ⟨zb, zo, none⟩)] ((wr.setCell ⟨zb, zo, none⟩ (.bool (!(nx == ny)))).setCell ⟨zb, zo + 1, none⟩ (.slice (some ⟨g, 0, none⟩) N N)).drew fun e w' => e = .returned (.pointer (some ⟨zb, zo, none⟩)) ∧ PutN w w' zb zo (sgT (nx != ny) (X * Y)) (X * Y)) := by
        have := trim_put zb zo m N N _ (!(nx == ny)) o w _ HBX.out ho (Put.mk' HBw.out hzl2 zo _ _ 1) (rd_store (rd_store HRO.out (by show g ≠ zb; omega) _) (by show g ≠ zb; omega) _) HOW.out (fun e => by cases e)
        rw [HVE.out] at this
        exact this
      clear HV HO HOZ HOL hzl2
      go_wp2_with fail
      go_region
      go_wp2_with fail
      refine HT.out.mono ?_
      rintro e w' ⟨rfl, h2⟩
      have H2 := Lib.hid h2
      clear h2
      go_wp2_with fail
      go_ret
      exact ⟨rfl, H2.out⟩
end Go.Proofs.Ytidnmdfpnmahpaa.Big
