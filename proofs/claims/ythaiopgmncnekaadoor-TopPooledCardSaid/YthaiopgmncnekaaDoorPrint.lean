/- bench.Print: what it answers. Condition: the listed variables as they are laid. -/
import Derived.Test.YthaiopgmncnekaaDoorTell
import Derived.Test.YthaiopgmncnekaaDoorBld
import Derived.Deep.RegionHeld3
set_option linter.unusedSimpArgs false
set_option linter.unusedVariables false
namespace Go.Proofs.YthaiopgmncnekaaDoor
open Go.RowKit
def fitI (n : Int) : Prop := 0 ≤ n ∧ n ≤ 1099511627776
instance (n : Int) : Decidable (fitI n) := by unfold fitI; infer_instance
def addLn (p : Int × Int) : List UInt8 := [97, 100, 100, 32] ++ Lib.itoa p.1 ++ [32] ++ Lib.itoa p.2 ++ [10]
def roomLn (r : Int) : List UInt8 := [114, 111, 111, 109, 32] ++ Lib.itoa r ++ [10]
def ptext (r : Int) (l : List (Int × Int)) : List UInt8 := roomLn r ++ (l.map addLn).flatten
theorem fit_len {n : Int} (h : fitI n) : (Lib.itoa n).length ≤ 21 := Lib.itoa_length_le n (by unfold fitI at h; omega) (by unfold fitI at h; omega)
theorem addLn_len {p : Int × Int} (h1 : fitI p.1) (h2 : fitI p.2) : (addLn p).length ≤ 48 := by
  have := fit_len h1
  have := fit_len h2
  unfold addLn
  simp
  omega
/-- A slice that reads as a list of those who come. -/
def RdC (w : World) (v : Value) (zs : List (Int × Int)) : Prop :=
  ∃ a cap, v = .slice a zs.length cap ∧ (zs ≠ [] → ∃ b off, a = some ⟨b, off, none⟩ ∧ b < w.heap.size ∧ ∀ i, i < zs.length → w.cell? ⟨b, off + i * 2, none⟩ = some (.int .i64 (zs.getD i (0, 0)).1) ∧ w.cell? ⟨b, off + i * 2 + 1, none⟩ = some (.int .i64 (zs.getD i (0, 0)).2))
theorem RdC.below {w w' : World} {v : Value} {zs : List (Int × Int)} (h : RdC w v zs) (hb : Below w.heap.size w w') : RdC w' v zs := by
  obtain ⟨a, cap, rfl, h1⟩ := h
  refine ⟨a, cap, rfl, fun hz => ?_⟩
  obtain ⟨b, off, rfl, h2, h3⟩ := h1 hz
  exact ⟨b, off, rfl, Nat.lt_of_lt_of_le h2 hb.size, fun i hi => ⟨(World.cell?_of_block (hb.block b h2)).trans (h3 i hi).1, (World.cell?_of_block (hb.block b h2)).trans (h3 i hi).2⟩⟩
/-- What Print answers. -/
def PrintP (e : Ending) (r : Int) (zs : List (Int × Int)) : Prop :=
  ((fitI r ∧ ∀ p ∈ zs, fitI p.1 ∧ fitI p.2) ∧ e = .returned (.tuple #[.string ⟨(ptext r zs).toArray⟩, .int .i64 0])) ∨ (¬ (fitI r ∧ ∀ p ∈ zs, fitI p.1 ∧ fitI p.2) ∧ e = .returned (.tuple #[.string ⟨#[]⟩, .int .i64 2]))
theorem fits_i (n : Int) (w : World) (b : Bool) (h : b = decide (fitI n)) : Calls Tryd.prog 30 #[.int .i64 n] w fun e w' => e = .returned (.bool b) ∧ w' = w := by
  subst h
  exact fits_any n w
set_option maxHeartbeats 1600000 in
set_option maxRecDepth 20000 in
theorem print_any (r : Int) (v : Value) (zs : List (Int × Int)) (w : World) (hT : TW w) (hv : RdC w v zs) (hl : zs.length ≤ 1048577) :
    Calls Tryd.prog 8 #[.int .i64 r, v] w fun e w' => PrintP e r zs ∧ Below w.heap.size w w' := by
  obtain ⟨a, cap, rfl, hc⟩ := hv
  have HC := Lib.hid hc
  have HTT := Lib.hid hT
  clear hc hT
  by_cases hr : fitI r
  · have HF : Hid (∀ w, Calls Tryd.prog 30 #[.int .i64 r] w fun e w' => e = .returned (.bool true) ∧ w' = w) := fun w => fits_i r w true (by rw [decide_eq_true hr])
    have HRI := Lib.hid hr
    have hrl := fit_len hr
    have HIT := Lib.hid (itoa_any r (w.alloc (.cells #[.pointer none, .slice none 0 0] 71)) (HTT.out.below ((Below.refl w.heap.size w).alloc (Nat.le_refl _) _) (Nat.le_refl _)) (by unfold fitI at hr; omega))
    have q1 : (9223372036854775807 < 5 + (Lib.itoa r).length) = False := eq_false (by omega)
    have q2 : (9223372036854775807 < 5 + (Lib.itoa r).length + 1) = False := eq_false (by omega)
    have HRL : Hid ((Lib.itoa r).length ≤ 21) := hrl
    obtain ⟨n, hn⟩ : ∃ n, zs.length = n := ⟨_, rfl⟩
    have HN := Lib.hid hn
    rw [hn] at hl ⊢
    clear hr hrl hn
    go_enter Tryd.func8, Tryd.ntmps8
    go_wp2_with fail
    refine (HF.out _).mono ?_
    rintro e w0 ⟨rfl, rfl⟩
    go_wp2_with fail
    refine HIT.out.mono ?_
    rintro e w1 ⟨rfl, hb1⟩
    have HBD : Hid (Bd w1 w0.heap.size []) := (Bd.new w0).keep hb1
    have HB1 : Hid (Below w0.heap.size w0 w1) := ((Below.refl w0.heap.size w0).alloc (Nat.le_refl _) _).trans (hb1.mono (by simp))
    have HWR : Hid (Calls Tryd.prog 31 #[.pointer (some ⟨w0.heap.size, 0, none⟩), .string ((⟨#[114, 111, 111, 109, 32]⟩ : ByteArray) ++ (⟨(Lib.itoa r).toArray⟩ : ByteArray) ++ (⟨#[10]⟩ : ByteArray))] w1 fun e w' => ∃ n, e = .returned (.tuple #[.int .i64 n, .nilIface]) ∧ Bd w' w0.heap.size (roomLn r) ∧ Below w0.heap.size w1 w') := by
      refine Calls.mono ?_ fun e w' h => (show (∃ n, e = .returned (.tuple #[.int .i64 n, .nilIface]) ∧ Bd w' w0.heap.size (roomLn r) ∧ Below w0.heap.size w1 w' ∧ ∀ k cs t fr, k < w1.heap.size → k ≠ w0.heap.size → t ≠ 5 → w1.heap[k]? = some (.cells cs t fr) → w'.heap[k]? = w1.heap[k]?) → _ from fun ⟨n, h1, h2, h3, _⟩ => ⟨n, h1, h2, h3⟩) h
      have := HBD.out.write (roomLn r) (by have := HRL.out; unfold roomLn; simp; omega) (Nat.le_of_lt HBD.out.lt)
      show Calls _ _ _ _ _
      rw [show (⟨#[114, 111, 111, 109, 32]⟩ : ByteArray) = ⟨[114, 111, 111, 109, 32].toArray⟩ from rfl, show (⟨#[10]⟩ : ByteArray) = ⟨[10].toArray⟩ from rfl, str_app, str_app]
      exact this
    clear hb1
    go_wp2_with fail
    refine HWR.out.mono ?_
    rintro e w2 ⟨nn, rfl, hbd, hb2⟩
    have HB2 := Lib.hid (HB1.out.trans hb2)
    have HBD2 := Lib.hid hbd
    clear hb2 hbd
    go_wp2_with fail
    go_loopw [19] (fun iv wr => ∃ (i : Nat) (S : List UInt8), i ≤ n ∧ iv = .int .i64 i ∧ Hid (∀ p ∈ zs.take i, fitI p.1 ∧ fitI p.2) ∧ Hid (S = roomLn r ++ ((zs.take i).map addLn).flatten) ∧ Hid (S.length ≤ 27 + 48 * i) ∧ Hid (Bd wr w0.heap.size S) ∧ Hid (Below w0.heap.size w0 wr)) (fun iv _ => n - (intOf iv).toNat)
    case atStart =>
      exact ⟨0, roomLn r, Nat.zero_le _, rfl, (fun p hp => by cases hp), by show _ = _; simp, by show _ ≤ _; have := HRL.out; unfold roomLn; simp; omega, HBD2.out, HB2.out⟩
    case round =>
      obtain ⟨i, S, hi, rfl, HFI, HS, HSL, HBD, HB⟩ := hrel
      by_cases hlt : i < n
      · have hlt2 : (i : Int) < (n : Int) := by omega
        have hiz : i < zs.length := by rw [HN.out]; exact hlt
        have hne : zs ≠ [] := fun h => by rw [h] at hiz; cases hiz
        obtain ⟨g, off, rfl, hg, hcs⟩ := HC.out hne
        obtain ⟨c0, c1⟩ := hcs i hiz
        have hmem : zs.getD i (0, 0) ∈ zs := by rw [List.getD_eq_getElem?_getD, List.getElem?_eq_getElem hiz]; exact List.getElem_mem hiz
        have htk : zs.take (i + 1) = zs.take i ++ [zs.getD i (0, 0)] := by rw [List.take_add_one, List.getD_eq_getElem?_getD, List.getElem?_eq_getElem hiz]; rfl
        obtain ⟨⟨x, d⟩, hp⟩ : ∃ p, zs.getD i (0, 0) = p := ⟨_, rfl⟩
        rw [hp] at c0 c1 hmem htk
        have C0 : wr.cell? ⟨g, off + i * 2, none⟩ = some (.int .i64 x) := (World.cell?_of_block (HB.out.block g hg)).trans c0
        have C1 : wr.cell? ⟨g, off + i * 2 + 1, none⟩ = some (.int .i64 d) := (World.cell?_of_block (HB.out.block g hg)).trans c1
        have HMEM := Lib.hid hmem
        have HTK := Lib.hid htk
        clear c0 c1 hcs hmem htk hp hiz hne
        by_cases hx : fitI x
        · by_cases hd : fitI d
          · have HX : Hid (∀ w, Calls Tryd.prog 30 #[.int .i64 x] w fun e w' => e = .returned (.bool true) ∧ w' = w) := fun w => fits_i x w true (by rw [decide_eq_true hx])
            have HD : Hid (∀ w, Calls Tryd.prog 30 #[.int .i64 d] w fun e w' => e = .returned (.bool true) ∧ w' = w) := fun w => fits_i d w true (by rw [decide_eq_true hd])
            have hbw : Below wr.heap.size wr (wr.alloc (.cells #[.int .i64 x, .int .i64 d] 36)) := (Below.refl wr.heap.size wr).alloc (Nat.le_refl _) _
            have HIX : Hid (∀ w', Below wr.heap.size wr w' → Calls Tryd.prog 13 #[.int .i64 x] w' fun e w2 => e = .returned (.string ⟨(Lib.itoa x).toArray⟩) ∧ Below w'.heap.size w' w2) := fun w' h => itoa_any x w' (HTT.out.below (HB.out.trans (h.mono HB.out.size)) (Nat.le_refl _)) (by unfold fitI at hx; omega)
            have HID : Hid (∀ w', Below wr.heap.size wr w' → Calls Tryd.prog 13 #[.int .i64 d] w' fun e w2 => e = .returned (.string ⟨(Lib.itoa d).toArray⟩) ∧ Below w'.heap.size w' w2) := fun w' h => itoa_any d w' (HTT.out.below (HB.out.trans (h.mono HB.out.size)) (Nat.le_refl _)) (by unfold fitI at hd; omega)
            have hLX := fit_len hx
            have hLD := fit_len hd
            have HAL : Hid ((addLn (x, d)).length ≤ 48) := addLn_len hx hd
            have HFN : Hid (∀ p ∈ zs.take (i + 1), fitI p.1 ∧ fitI p.2) := fun p hp => by
              rw [HTK.out] at hp
              rcases List.mem_append.1 hp with hp | hp
              · exact HFI.out p hp
              · simp at hp; subst hp; exact ⟨hx, hd⟩
            have HWR : Hid (∀ w', Below wr.heap.size wr w' → Calls Tryd.prog 31 #[.pointer (some ⟨w0.heap.size, 0, none⟩), .string ((⟨#[97, 100, 100, 32]⟩ : ByteArray) ++ (⟨(Lib.itoa x).toArray⟩ : ByteArray) ++ (⟨#[32]⟩ : ByteArray) ++ (⟨(Lib.itoa d).toArray⟩ : ByteArray) ++ (⟨#[10]⟩ : ByteArray))] w' fun e w2 => ∃ n, e = .returned (.tuple #[.int .i64 n, .nilIface]) ∧ Bd w2 w0.heap.size (S ++ addLn (x, d)) ∧ Below w0.heap.size w' w2 ∧ ∀ k cs t fr, k < w'.heap.size → k ≠ w0.heap.size → t ≠ 5 → w'.heap[k]? = some (.cells cs t fr) → w2.heap[k]? = w'.heap[k]?) := fun w' h => by
              have hbd := HBD.out.keep h
              have := hbd.write (addLn (x, d)) (by have := HSL.out; have := HAL.out; omega) (Nat.le_of_lt hbd.lt)
              show Calls _ _ _ _ _
              rw [show (⟨#[97, 100, 100, 32]⟩ : ByteArray) = ⟨[97, 100, 100, 32].toArray⟩ from rfl, show (⟨#[32]⟩ : ByteArray) = ⟨[32].toArray⟩ from rfl, show (⟨#[10]⟩ : ByteArray) = ⟨[10].toArray⟩ from rfl, str_app, str_app, str_app, str_app]
              exact this
            have hbdl : Hid (w0.heap.size < wr.heap.size) := HBD.out.lt
            have k1 : (9223372036854775807 < 4 + (Lib.itoa x).length) = False := eq_false (by omega)
            have k2 : (9223372036854775807 < 4 + (Lib.itoa x).length + 1) = False := eq_false (by omega)
            have k3 : (9223372036854775807 < 4 + (Lib.itoa x).length + 1 + (Lib.itoa d).length) = False := eq_false (by omega)
            have k4 : (9223372036854775807 < 4 + (Lib.itoa x).length + 1 + (Lib.itoa d).length + 1) = False := eq_false (by omega)
            clear hx hd hLX hLD q1 q2
            go_wp2_with fail
            refine (HX.out _).mono ?_
            rintro e w3 ⟨rfl, rfl⟩
            go_wp2_with fail
            refine (HD.out _).mono ?_
            rintro e w3 ⟨rfl, rfl⟩
            go_wp2_with fail
            obtain ⟨x0, hx0⟩ : ∃ x0, wr.alloc (.cells #[.int .i64 x, .int .i64 d] 36) = x0 := ⟨_, rfl⟩
            have hd0 : x0.cell? ⟨wr.heap.size, 0, none⟩ = some (.int .i64 x) := by rw [← hx0, cell_of_row _ _ _ _ _ _ (heap_alloc_new wr _)]; rfl
            have hd1 : x0.cell? ⟨wr.heap.size, 1, none⟩ = some (.int .i64 d) := by rw [← hx0, cell_of_row _ _ _ _ _ _ (heap_alloc_new wr _)]; rfl
            have hxb : x0.heap[wr.heap.size]? = some (.cells #[.int .i64 x, .int .i64 d] 36) := by rw [← hx0]; exact heap_alloc_new wr _
            have hxs : wr.heap.size < x0.heap.size := by rw [← hx0]; simp
            rw [hx0] at hbw ⊢
            have SB : Hid (∀ w', Below x0.heap.size x0 w' → w'.cell? ⟨wr.heap.size, 0, none⟩ = some (.int .i64 x) ∧ w'.cell? ⟨wr.heap.size, 1, none⟩ = some (.int .i64 d)) := fun w' hb => ⟨(World.cell?_of_block (hb.block _ hxs)).trans hd0, (World.cell?_of_block (hb.block _ hxs)).trans hd1⟩
            have SC : Hid (∀ (w' w2 : World), Below x0.heap.size x0 w' → (∀ k cs t fr, k < w'.heap.size → k ≠ w0.heap.size → t ≠ 5 → w'.heap[k]? = some (.cells cs t fr) → w2.heap[k]? = w'.heap[k]?) → w2.cell? ⟨wr.heap.size, 0, none⟩ = some (.int .i64 x) ∧ w2.cell? ⟨wr.heap.size, 1, none⟩ = some (.int .i64 d)) := fun w' w2 hb hk => by
              have hB := hbdl.out
              have e1 := (hb.block _ hxs).trans hxb
              have e2 := hk wr.heap.size _ _ _ (Nat.lt_of_lt_of_le hxs hb.size) (by omega) (by decide) e1
              have := SB.out w' hb
              exact ⟨(World.cell?_of_block e2).trans this.1, (World.cell?_of_block e2).trans this.2⟩
            have HBW := Lib.hid hbw
            have HW0 : Hid (∀ w', Below x0.heap.size x0 w' → Below wr.heap.size wr w') := fun w' h => hbw.trans (h.mono hbw.size)
            clear hx0
            go_region_held3 (fun w' => w'.cell? ⟨wr.heap.size, 0, none⟩ = some (.int .i64 x) ∧ w'.cell? ⟨wr.heap.size, 1, none⟩ = some (.int .i64 d)) (first | exact ⟨hd0, hd1⟩ | exact SB.out _ (Below.drew (Below.refl _ _)) | exact SB.out _ (by assumption) | exact SC.out w4 _ hb4 hk5) (first
              | (go_at_call 13; with_reducible refine (HIX.out x0.drew (HW0.out _ (Below.drew (Below.refl _ _)))).mono ?_; rintro e w3 ⟨rfl, hb3'⟩; have hb3 : Below x0.heap.size x0 w3 := (Below.drew (Below.refl _ _)).trans (hb3'.mono (Nat.le_refl _)))
              | (go_at_call 13; with_reducible refine (HID.out w3 (HW0.out _ hb3)).mono ?_; rintro e w4 ⟨rfl, hb4'⟩; have hb4 : Below x0.heap.size x0 w4 := hb3.trans (hb4'.mono hb3.size))
              | (go_at_call 31; with_reducible refine (HWR.out w4 (HW0.out _ hb4)).mono ?_; rintro e w5 ⟨nm, rfl, hbd5, hb5, hk5⟩))
            all_goals
              have HBE := Lib.hid ((HB.out.trans ((HW0.out _ hb4).mono HB.out.size)).trans hb5)
              have HBD5 := Lib.hid hbd5
              clear hb3' hb3 hb4' hb4 hbd5 hb5 hk5 hd0 hd1 SB C0 C1 k1 k2 k3 k4
              go_wp2_with fail
              go_roundw
              case rel =>
                refine ⟨i + 1, S ++ addLn (x, d), by omega, by go_num, HFN.out, ?_, ?_, HBD5.out, HBE.out⟩
                · show _ = _
                  rw [HTK.out, HS.out, List.map_append, List.flatten_append, List.append_assoc]
                  simp
                · show _ ≤ _
                  have := HSL.out
                  have := HAL.out
                  rw [List.length_append]
                  omega
              case measure => simp [intOf]; omega
          · have HX : Hid (∀ w, Calls Tryd.prog 30 #[.int .i64 x] w fun e w' => e = .returned (.bool true) ∧ w' = w) := fun w => fits_i x w true (by rw [decide_eq_true hx])
            have HD : Hid (∀ w, Calls Tryd.prog 30 #[.int .i64 d] w fun e w' => e = .returned (.bool false) ∧ w' = w) := fun w => fits_i d w false (by rw [decide_eq_false hd])
            have HND := Lib.hid hd
            have hbw : Below wr.heap.size wr (wr.alloc (.cells #[.int .i64 x, .int .i64 d] 36)) := (Below.refl wr.heap.size wr).alloc (Nat.le_refl _) _
            have HEN : Hid (Below w0.heap.size w0 (wr.alloc (.cells #[.int .i64 x, .int .i64 d] 36))) := HB.out.trans (hbw.mono HB.out.size)
            clear hx hd hbw q1 q2
            go_wp2_with fail
            refine (HX.out _).mono ?_
            rintro e w3 ⟨rfl, rfl⟩
            go_wp2_with fail
            refine (HD.out _).mono ?_
            rintro e w3 ⟨rfl, rfl⟩
            go_wp2_with fail
            go_ret2
            exact ⟨.inr ⟨fun h => HND.out (h.2 _ HMEM.out).2, rfl⟩, HEN.out⟩
        · have HX : Hid (∀ w, Calls Tryd.prog 30 #[.int .i64 x] w fun e w' => e = .returned (.bool false) ∧ w' = w) := fun w => fits_i x w false (by rw [decide_eq_false hx])
          have HND := Lib.hid hx
          have hbw : Below wr.heap.size wr (wr.alloc (.cells #[.int .i64 x, .int .i64 d] 36)) := (Below.refl wr.heap.size wr).alloc (Nat.le_refl _) _
          have HEN : Hid (Below w0.heap.size w0 (wr.alloc (.cells #[.int .i64 x, .int .i64 d] 36))) := HB.out.trans (hbw.mono HB.out.size)
          clear hx hbw q1 q2
          go_wp2_with fail
          refine (HX.out _).mono ?_
          rintro e w3 ⟨rfl, rfl⟩
          go_wp2_with fail
          go_ret2
          exact ⟨.inr ⟨fun h => HND.out (h.2 _ HMEM.out).1, rfl⟩, HEN.out⟩
      · obtain rfl : i = n := by omega
        have HST : Hid (S = ptext r zs) := by
          show _ = _
          rw [HS.out, List.take_of_length_le (by rw [HN.out]; exact Nat.le_refl _)]
          rfl
        have HFA : Hid (∀ p ∈ zs, fitI p.1 ∧ fitI p.2) := by
          have := HFI.out
          rw [List.take_of_length_le (by rw [HN.out]; exact Nat.le_refl _)] at this
          exact this
        have HTX := Lib.hid HBD.out.text
        clear q1 q2
        go_wp2_with fail
        refine HTX.out.mono ?_
        rintro e w3 ⟨rfl, hb3⟩
        have HE := Lib.hid (HB.out.trans hb3)
        clear hb3
        go_wp2_with fail
        go_ret2
        exact ⟨.inl ⟨⟨HRI.out, HFA.out⟩, by rw [← HST.out]; rfl⟩, HE.out⟩
  · have HF : Hid (∀ w, Calls Tryd.prog 30 #[.int .i64 r] w fun e w' => e = .returned (.bool false) ∧ w' = w) := fun w => fits_i r w false (by rw [decide_eq_false hr])
    have HRI := Lib.hid hr
    clear hr
    go_enter Tryd.func8, Tryd.ntmps8
    go_wp2_with fail
    refine (HF.out _).mono ?_
    rintro e w0 ⟨rfl, rfl⟩
    go_wp2_with fail
    go_ret2
    exact ⟨.inr ⟨fun h => HRI.out h.1, rfl⟩, Below.refl _ _⟩
end Go.Proofs.YthaiopgmncnekaaDoor
