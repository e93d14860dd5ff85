/- BookPlays, walked: it answers true. -/
import Derived.Test.YtlabnbfcjpggeaaPlays1
namespace Go.Proofs.Ytlabnbfcjpggeaa
open Go.RowKit Go.Maps

theorem below3 {w a b c : World} (h1 : Below w.heap.size w a) (h2 : Below a.heap.size a b) (h3 : Below b.heap.size b c) : Below w.heap.size w c :=
  (h1.trans (h2.mono h1.size)).trans (h3.mono (Nat.le_trans h1.size h2.size))

set_option maxRecDepth 100000 in
set_option maxHeartbeats 16000000 in
theorem plays_any (A : Option Addr) (ca : Nat) (ops : List OpD) (w : World) (hn : ops.length ≤ 100) (ho : SR w (fun _ => True) A (opsV ops)) (hok : ∀ o ∈ ops, OpOkP w o) :
    Calls Try.prog 4 #[.slice A ops.length ca] w fun e w' => e = .returned (.bool true) ∧ Below w.heap.size w w' := by
  have hd1 : ¬ (100 : Int) < (ops.length : Int) := by omega
  go_enter Try.func4, Try.ntmps4
  go_wp2_with fail
  refine (New_any w).mono ?_
  rintro e w1 ⟨bp, bm, rfl, hk1, hw1⟩
  have hstart : PInv w bp bm 0 none 0 w1 := ⟨_, none, 0, [], [], hk1.low, fun k h => h, ⟨SR.nil _ _ _, fun p hp => (by cases hp), fun p hp => (by cases hp)⟩, rfl, rfl, ⟨Nat.zero_le _, fun r hr => (by cases hr)⟩, hw1⟩
  clear hk1
  go_wp2_with fail
  go_loopw [5, 6] (fun v5 v6 wr => ∃ (i n : Nat) (A5 : Option Addr) (c5 : Nat), i ≤ ops.length ∧ v6 = .int .i64 i ∧ v5 = .slice A5 n c5 ∧ PInv w bp bm i A5 n wr) (fun _ v6 _ => ops.length - (intOf v6).toNat)
  case atStart => exact ⟨0, 0, none, 0, Nat.zero_le _, rfl, rfl, hstart⟩
  case round =>
    obtain ⟨i, n, A5, c5, hil, rfl, rfl, hinv⟩ := hrel
    obtain ⟨F, Al, cl, L, M, hk, hF, hR, hML, hMn, hbd, hwr⟩ := id hinv
    subst hMn
    have hwrs := hwr.size
    by_cases hlt : i < ops.length
    · obtain ⟨o, ho_i, hoV⟩ : ∃ o, ops[i]? = some o ∧ o ∈ ops := ⟨_, List.getElem?_eq_getElem hlt, List.getElem_mem _⟩
      obtain ⟨b, off, rfl, hcs⟩ := ops_cells ho hwr ho_i
      obtain ⟨_, hot, _, _, bs, hbn, hbb, hbx⟩ := hok o hoV
      have q0 := hcs 0 _ rfl
      rw [Nat.add_zero] at q0
      have q1 := hcs 1 _ rfl
      have q2 := hcs 2 _ rfl
      have q3 := hcs 3 _ rfl
      have q4 := hcs 4 _ rfl
      have q5 := hcs 5 _ rfl
      have q6 := hcs 6 _ rfl
      have q7 := hcs 7 _ rfl
      have q8 := hcs 8 _ rfl
      have q9 := hcs 9 _ rfl
      have q10 := hcs 10 _ rfl
      have q11 := hcs 11 _ rfl
      have q12 := hcs 12 _ rfl
      have q13 := hcs 13 _ rfl
      have q14 := hcs 14 _ rfl
      have q15 := hcs 15 _ rfl
      have hi1 : (0 : Int) ≤ (i : Int) := Int.natCast_nonneg _
      have hi2 : (i : Int) < (ops.length : Int) := by omega
      rw [← hbn] at q15
      obtain ⟨WB, hWB⟩ : ∃ WB, WB = wr.alloc (.cells #[.int .i64 o.kind, .int .i64 o.thr, .int .i64 o.ev, .int .i64 o.call.1, .int .i64 o.call.2.1, .int .u64 o.call.2.2.1, .int .u64 o.call.2.2.2.1, .int .i64 o.call.2.2.2.2, .int .i64 o.act.1, .int .u64 o.act.2.1, .int .i64 o.act.2.2.1, .int .i64 o.act.2.2.2, .int .i64 o.err, .bool o.ok, .int .u64 o.hnd, .slice o.Ab bs.length o.cb] 46) := ⟨_, rfl⟩
      have hbw : Below wr.heap.size wr WB := by rw [hWB]; exact (Below.refl wr.heap.size wr).alloc (Nat.le_refl _) _
      have hxb : WB.heap[wr.heap.size]? = some (.cells #[.int .i64 o.kind, .int .i64 o.thr, .int .i64 o.ev, .int .i64 o.call.1, .int .i64 o.call.2.1, .int .u64 o.call.2.2.1, .int .u64 o.call.2.2.2.1, .int .i64 o.call.2.2.2.2, .int .i64 o.act.1, .int .u64 o.act.2.1, .int .i64 o.act.2.2.1, .int .i64 o.act.2.2.2, .int .i64 o.err, .bool o.ok, .int .u64 o.hnd, .slice o.Ab bs.length o.cb] 46 (0, 0)) := by rw [hWB]; exact heap_alloc_new wr _
      have hxl : wr.heap.size < WB.heap.size := by rw [hWB]; simp
      have hW : Below w.heap.size w WB := hwr.trans (hbw.mono hwrs)
      have hkA := hk.below hbw
      have hRA := hR.below hbw
      have hllen : L.length ≤ 100 := by have := hbd.1; rw [List.length_map] at this; omega
      have HML := Lib.hid hML
      have HWB := Lib.hid hWB
      have HX := Lib.hid hxb
      have hFx : ¬ F wr.heap.size := fun h => Nat.lt_irrefl _ (hF _ h).2
      have hF1 : ∀ k, F k → w.heap.size ≤ k := fun k h => (hF k h).1
      clear hML hcs ho_i hbn hWB hxb
      by_cases hk0 : o.kind = 0
      · have t0 : (o.kind == 0) = true := by simp [hk0]
        obtain ⟨er, rs, cB, cR, cbd⟩ := begin_both hkA M HML.out hllen o.thr o.ev o.call hot
        have hbd' := cbd i hbd
        clear hk0 cbd hbd
        go_wp2_with fail
        rw [← HWB.out]
        refine cB.mono ?_
        rintro e w2 ⟨rfl, A2, c2, L2, hL2, hb2, hu2⟩
        have hxb2 := hu2.heap HX.out hFx
        have p1 := cell_of_row w2 wr.heap.size 1 _ 46 (0, 0) hxb2
        have p2 := cell_of_row w2 wr.heap.size 2 _ 46 (0, 0) hxb2
        have p3 := cell_of_row w2 wr.heap.size 3 _ 46 (0, 0) hxb2
        have p4 := cell_of_row w2 wr.heap.size 4 _ 46 (0, 0) hxb2
        have p5 := cell_of_row w2 wr.heap.size 5 _ 46 (0, 0) hxb2
        have p6 := cell_of_row w2 wr.heap.size 6 _ 46 (0, 0) hxb2
        have p7 := cell_of_row w2 wr.heap.size 7 _ 46 (0, 0) hxb2
        simp at p1 p2 p3 p4 p5 p6 p7
        go_wp2_with fail
        refine (cR A5 c5 _ w2 (mid_recs hRA hu2)).mono ?_
        rintro e w3 ⟨A6, c6, M6, hM6, rfl, hb3, hR6⟩
        have hfin := fin_inv hW hF1 hb2 hL2 hu2 hb3 hR6 hM6 hbd'
        obtain ⟨rs', hrl, hri, hth, cAll, cUnd, cThr, cDone⟩ := test_calls hfin (by omega)
        go_wp2_with fail
        refine (cAll _ (Below.refl _ _)).mono ?_
        rintro e w4 ⟨A7, c7, rfl, hb4, cSame⟩
        go_wp2_with fail
        refine (cSame w4 (Below.refl _ _) c6).mono ?_
        rintro e w5 ⟨rfl, hb5⟩
        have hb45 := hb4.trans (hb5.mono hb4.size)
        go_wp2_with fail
        refine (cUnd w5 hb45).mono ?_
        rintro e w6 ⟨A8, c8, rfl, hr8, hb6⟩
        have hb46 := hb45.trans (hb6.mono hb45.size)
        go_wp2_with fail
        refine (cThr w6 hb46 c6).mono ?_
        rintro e w7 ⟨A9, c9, rfl, hr9, hb7⟩
        have hb47 := hb46.trans (hb7.mono hb46.size)
        have hs8 := (SR.of_own hr8 (fun _ => True) (fun _ _ => trivial)).below hb7
        have hs9 := SR.of_own hr9 (fun _ => True) (fun _ _ => trivial)
        go_wp2_with fail
        refine (sameInt_any (thrs rs') A8 A9 c8 c9 w7 hs8 hs9 (by omega)).mono ?_
        rintro e w8 ⟨rfl, hb8⟩
        have hb48 := hb47.trans (hb8.mono hb47.size)
        go_wp2_with fail
        refine (cDone w8 hb48).mono ?_
        rintro e w9 ⟨rfl, hb9⟩
        have hb49 := hb48.trans (hb9.mono hb48.size)
        go_wp2_with fail
        refine (cThr w9 hb49 c6).mono ?_
        rintro e w10 ⟨A11, c11, rfl, hr11, hb10⟩
        have hb410 := hb49.trans (hb10.mono hb49.size)
        have hlast := hfin.below hb410
        clear hr11 hs8 hs9 hr8 hr9
        go_wp2_with fail
        go_roundw
        case rel => exact ⟨i + 1, M6.length, A6, c6, by omega, by go_num, rfl, hlast⟩
        case measure => simp [intOf]; omega
      by_cases hk1 : o.kind = 1
      · have t0 : (o.kind == 0) = false := by simp [hk0]
        have t1 : (o.kind == 1) = true := by simp [hk1]
        obtain ⟨er, rs, cB, cR, hbd'⟩ := act_both hkA M HML.out hbd (by omega) o.thr o.ev o.act hot
        clear hk0 hk1 hbd
        go_wp2_with fail
        rw [← HWB.out]
        refine cB.mono ?_
        rintro e w2 ⟨rfl, A2, c2, L2, hL2, hb2, hu2⟩
        have hxb2 := hu2.heap HX.out hFx
        have p1 := cell_of_row w2 wr.heap.size 1 _ 46 (0, 0) hxb2
        have p2 := cell_of_row w2 wr.heap.size 2 _ 46 (0, 0) hxb2
        have p8 := cell_of_row w2 wr.heap.size 8 _ 46 (0, 0) hxb2
        have p9 := cell_of_row w2 wr.heap.size 9 _ 46 (0, 0) hxb2
        have p10 := cell_of_row w2 wr.heap.size 10 _ 46 (0, 0) hxb2
        have p11 := cell_of_row w2 wr.heap.size 11 _ 46 (0, 0) hxb2
        simp at p1 p2 p8 p9 p10 p11
        go_wp2_with fail
        refine (cR A5 c5 _ w2 (mid_recs hRA hu2)).mono ?_
        rintro e w3 ⟨A6, c6, M6, hM6, rfl, hb3, hR6⟩
        have hfin := fin_inv hW hF1 hb2 hL2 hu2 hb3 hR6 hM6 hbd'
        obtain ⟨rs', hrl, hri, hth, cAll, cUnd, cThr, cDone⟩ := test_calls hfin (by omega)
        go_wp2_with fail
        refine (cAll _ (Below.refl _ _)).mono ?_
        rintro e w4 ⟨A7, c7, rfl, hb4, cSame⟩
        go_wp2_with fail
        refine (cSame w4 (Below.refl _ _) c6).mono ?_
        rintro e w5 ⟨rfl, hb5⟩
        have hb45 := hb4.trans (hb5.mono hb4.size)
        go_wp2_with fail
        refine (cUnd w5 hb45).mono ?_
        rintro e w6 ⟨A8, c8, rfl, hr8, hb6⟩
        have hb46 := hb45.trans (hb6.mono hb45.size)
        go_wp2_with fail
        refine (cThr w6 hb46 c6).mono ?_
        rintro e w7 ⟨A9, c9, rfl, hr9, hb7⟩
        have hb47 := hb46.trans (hb7.mono hb46.size)
        have hs8 := (SR.of_own hr8 (fun _ => True) (fun _ _ => trivial)).below hb7
        have hs9 := SR.of_own hr9 (fun _ => True) (fun _ _ => trivial)
        go_wp2_with fail
        refine (sameInt_any (thrs rs') A8 A9 c8 c9 w7 hs8 hs9 (by omega)).mono ?_
        rintro e w8 ⟨rfl, hb8⟩
        have hb48 := hb47.trans (hb8.mono hb47.size)
        go_wp2_with fail
        refine (cDone w8 hb48).mono ?_
        rintro e w9 ⟨rfl, hb9⟩
        have hb49 := hb48.trans (hb9.mono hb48.size)
        go_wp2_with fail
        refine (cThr w9 hb49 c6).mono ?_
        rintro e w10 ⟨A11, c11, rfl, hr11, hb10⟩
        have hb410 := hb49.trans (hb10.mono hb49.size)
        have hlast := hfin.below hb410
        clear hr11 hs8 hs9 hr8 hr9
        go_wp2_with fail
        go_roundw
        case rel => exact ⟨i + 1, M6.length, A6, c6, by omega, by go_num, rfl, hlast⟩
        case measure => simp [intOf]; omega
      · have t0 : (o.kind == 0) = false := by simp [hk0]
        have t1 : (o.kind == 1) = false := by simp [hk1]
        obtain ⟨er, rs, cB, cR, hbd'⟩ := end_both hkA M HML.out hbd (by omega) o.thr o.ev o.err o.hnd o.ok o.Ab o.cb bs hot (hbx.below hW) hbb
        clear hk0 hk1 hbd
        go_wp2_with fail
        rw [← HWB.out]
        refine cB.mono ?_
        rintro e w2 ⟨rfl, A2, c2, L2, hL2, hb2, hu2⟩
        have hxb2 := hu2.heap HX.out hFx
        have p1 := cell_of_row w2 wr.heap.size 1 _ 46 (0, 0) hxb2
        have p2 := cell_of_row w2 wr.heap.size 2 _ 46 (0, 0) hxb2
        have p12 := cell_of_row w2 wr.heap.size 12 _ 46 (0, 0) hxb2
        have p13 := cell_of_row w2 wr.heap.size 13 _ 46 (0, 0) hxb2
        have p14 := cell_of_row w2 wr.heap.size 14 _ 46 (0, 0) hxb2
        have p15 := cell_of_row w2 wr.heap.size 15 _ 46 (0, 0) hxb2
        simp at p1 p2 p12 p13 p14 p15
        go_wp2_with fail
        refine (cR A5 c5 _ w2 (mid_recs hRA hu2) (mid_sr hbx hW hF1 hu2)).mono ?_
        rintro e w3 ⟨A6, c6, M6, hM6, rfl, hb3, hR6⟩
        have hfin := fin_inv hW hF1 hb2 hL2 hu2 hb3 hR6 hM6 hbd'
        obtain ⟨rs', hrl, hri, hth, cAll, cUnd, cThr, cDone⟩ := test_calls hfin (by omega)
        go_wp2_with fail
        refine (cAll _ (Below.refl _ _)).mono ?_
        rintro e w4 ⟨A7, c7, rfl, hb4, cSame⟩
        go_wp2_with fail
        refine (cSame w4 (Below.refl _ _) c6).mono ?_
        rintro e w5 ⟨rfl, hb5⟩
        have hb45 := hb4.trans (hb5.mono hb4.size)
        go_wp2_with fail
        refine (cUnd w5 hb45).mono ?_
        rintro e w6 ⟨A8, c8, rfl, hr8, hb6⟩
        have hb46 := hb45.trans (hb6.mono hb45.size)
        go_wp2_with fail
        refine (cThr w6 hb46 c6).mono ?_
        rintro e w7 ⟨A9, c9, rfl, hr9, hb7⟩
        have hb47 := hb46.trans (hb7.mono hb46.size)
        have hs8 := (SR.of_own hr8 (fun _ => True) (fun _ _ => trivial)).below hb7
        have hs9 := SR.of_own hr9 (fun _ => True) (fun _ _ => trivial)
        go_wp2_with fail
        refine (sameInt_any (thrs rs') A8 A9 c8 c9 w7 hs8 hs9 (by omega)).mono ?_
        rintro e w8 ⟨rfl, hb8⟩
        have hb48 := hb47.trans (hb8.mono hb47.size)
        go_wp2_with fail
        refine (cDone w8 hb48).mono ?_
        rintro e w9 ⟨rfl, hb9⟩
        have hb49 := hb48.trans (hb9.mono hb48.size)
        go_wp2_with fail
        refine (cThr w9 hb49 c6).mono ?_
        rintro e w10 ⟨A11, c11, rfl, hr11, hb10⟩
        have hb410 := hb49.trans (hb10.mono hb49.size)
        have hlast := hfin.below hb410
        clear hr11 hs8 hs9 hr8 hr9
        go_wp2_with fail
        go_roundw
        case rel => exact ⟨i + 1, M6.length, A6, c6, by omega, by go_num, rfl, hlast⟩
        case measure => simp [intOf]; omega
    · obtain rfl : i = ops.length := by omega
      clear hinv hk hR hML hbd
      go_wp2_with fail
      refine (Begin_nil 0 1 (0, 0, 0, 0, 0) _).mono ?_
      rintro e w2 ⟨rfl, hb2⟩
      go_wp2_with fail
      refine (Act_nil 0 1 (0, 0, 0, 0) _).mono ?_
      rintro e w3 ⟨rfl, hb3⟩
      have hb13 := hb2.trans (hb3.mono hb2.size)
      go_wp2_with fail
      refine (End_nil 0 1 0 0 false none 0 0 _).mono ?_
      rintro e w4 ⟨rfl, hb4⟩
      have hb14 := hb13.trans (hb4.mono hb13.size)
      go_wp2_with fail
      refine (All_nil _).mono ?_
      rintro e w5 ⟨rfl, rfl⟩
      go_wp2_with fail
      refine (Under_nil _).mono ?_
      rintro e w5 ⟨rfl, hb5⟩
      have hb15 := hb14.trans (hb5.mono hb14.size)
      go_wp2_with fail
      refine (Done_nil _).mono ?_
      rintro e w6 ⟨rfl, rfl⟩
      go_wp2_with fail
      refine (awake_any _).mono ?_
      rintro e w6 ⟨rfl, hb6⟩
      have hb16 := hb15.trans (hb6.mono hb15.size)
      go_wp2_with fail
      go_ret
      exact ⟨rfl, hwr.trans (hb16.mono hwrs)⟩
end Go.Proofs.Ytlabnbfcjpggeaa
