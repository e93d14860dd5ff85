/- ModelOnce, walked: it answers true. -/
import Derived.Test.YtoikjokdabpmoaaPln
import Derived.Test.YtoikjokdabpmoaaCopy
import Derived.Test.YtoikjokdabpmoaaAwk
import Derived.Test.YtoikjokdabpmoaaOpn
namespace Go.Proofs.Ytoikjokdabpmoaa
open Go.RowKit Go.Maps

/-- Where a loop over acts stands. -/
structure OInv (w : World) (mp bl bw i : Nat) (T : List Tm) (wr : World) : Prop where
  mod : ModAt wr (fun k => k = mp ∨ k = bl ∨ k = bw) mp bl bw T
  lm : w.heap.size ≤ mp
  ll : w.heap.size ≤ bl
  lw : w.heap.size ≤ bw
  len : T.length ≤ i
  dls : Dls T
  low : Below w.heap.size w wr
theorem OInv.below {w wr w' : World} {mp bl bw i : Nat} {T : List Tm} (h : OInv w mp bl bw i T wr) (hb : Below wr.heap.size wr w') : OInv w mp bl bw i T w' :=
  { h with mod := h.mod.below hb, low := h.low.trans (hb.mono h.low.size) }
theorem OInv.turned {w wr w' : World} {mp bl bw i : Nat} {T : List Tm} (h : OInv w mp bl bw i T wr) {k x dl now : Int} (hdl : dl ≤ 9223372036854775807) (hm : ModAt w' (fun k => k = mp ∨ k = bl ∨ k = bw) mp bl bw (doT T k x dl now)) (hu : Upd (fun k => k = mp ∨ k = bl ∨ k = bw) wr w') : OInv w mp bl bw (i + 1) (doT T k x dl now) w' where
  mod := hm
  lm := h.lm
  ll := h.ll
  lw := h.lw
  len := Nat.le_trans (do_length T k x dl now) (Nat.succ_le_succ h.len)
  dls := dls_do h.dls k x dl now hdl
  low := h.low.trans (hu.to_below h.low.size (fun i e => by have := h.lm; have := h.ll; have := h.lw; omega))
theorem dl_of_ok {o : OpM} (h : OpOk o) : o.dl ≤ 9223372036854775807 := by
  have h2 := h.2
  simp [Lit.wf] at h2
  omega
theorem copied_own {T : List Tm} {w w' : World} {e : Ending} (h : Copied T w e w') : ∃ np nl nw, e = .returned (.pointer (some ⟨np, 0, none⟩)) ∧ ModAt w' (fun k => k = np ∨ k = nl ∨ k = nw) np nl nw T ∧ w.heap.size ≤ np ∧ w.heap.size ≤ nl ∧ w.heap.size ≤ nw ∧ Below w.heap.size w w' := by
  obtain ⟨np, nl, nw, he, hm, hb⟩ := h
  exact ⟨np, nl, nw, he, hm.own, hm.fm, hm.fl, hm.fw, hb⟩
theorem box5 {W : World} {b : Nat} {a c d e f : Value} (h : W.heap[b]? = some (.cells #[a, c, d, e, f] 30 (0, 0))) : W.cell? ⟨b, 0, none⟩ = some a ∧ W.cell? ⟨b, 1, none⟩ = some c ∧ W.cell? ⟨b, 2, none⟩ = some d ∧ W.cell? ⟨b, 3, none⟩ = some e ∧ W.cell? ⟨b, 4, none⟩ = some f :=
  ⟨cell_of_row W b 0 _ 30 (0, 0) h, cell_of_row W b 1 _ 30 (0, 0) h, cell_of_row W b 2 _ 30 (0, 0) h, cell_of_row W b 3 _ 30 (0, 0) h, cell_of_row W b 4 _ 30 (0, 0) h⟩

set_option maxRecDepth 100000 in
set_option maxHeartbeats 16000000 in
theorem once_any (A : Option Addr) (ca : Nat) (ops : List OpM) (h : Int) (w : World) (hn : ops.length ≤ 100) (ho : SR w (fun _ => True) A (opsM ops)) (hok : ∀ o ∈ ops, OpOk o) :
    Calls Try.prog 3 #[.slice A ops.length ca, .int .u64 h] w (Answer true w) := by
  have hd1 : ¬ (100 : Int) < (ops.length : Int) := by omega
  go_enter Try.func3, Try.ntmps3
  go_wp2_with fail
  refine (New_any w).mono ?_
  rintro e w1 ⟨mp, bl, bw, rfl, hk1, hw1⟩
  have hstart : OInv w mp bl bw 0 [] w1 := { mod := hk1.own, lm := hk1.fm, ll := hk1.fl, lw := hk1.fw, len := Nat.le_refl _, dls := fun t ht => (by cases ht), low := hw1 }
  clear hk1
  go_wp2_with fail
  go_loopw [6, 7, 8] (fun v6 v7 v8 wr => ∃ (i : Nat) (T : List Tm), i ≤ ops.length ∧ v8 = .int .i64 i ∧ v6 = .int .i64 (nMade T h) ∧ v7 = .int .i64 (nGone T h) ∧ OInv w mp bl bw i T wr) (fun _ _ v8 _ => ops.length - (intOf v8).toNat)
  case atStart => exact ⟨0, [], Nat.zero_le _, rfl, rfl, rfl, hstart⟩
  case round =>
    obtain ⟨i, T, hil, rfl, rfl, rfl, hinv⟩ := hrel
    by_cases hlt : i < ops.length
    · obtain ⟨o, ho_i, hoV⟩ : ∃ o, ops[i]? = some o ∧ o ∈ ops := ⟨_, List.getElem?_eq_getElem hlt, List.getElem_mem _⟩
      obtain ⟨b, off, rfl, _, _, hcs⟩ := sr_at opM 5 (fun _ => rfl) (by decide) ho hinv.low ho_i
      have hof := hok o hoV
      have q0 := hcs 0 _ rfl
      rw [Nat.add_zero] at q0
      have q1 := hcs 1 _ rfl
      have q2 := hcs 2 _ rfl
      have q3 := hcs 3 _ rfl
      have q4 := hcs 4 _ rfl
      have hi1 : (0 : Int) ≤ (i : Int) := Int.natCast_nonneg _
      have hi2 : (i : Int) < (ops.length : Int) := by omega
      have hwrs := hinv.low.size
      obtain ⟨WB, hWB⟩ : ∃ WB, WB = wr.alloc (.cells #[.int .i64 o.k, .int .u64 o.h, .int .i64 o.dl, .int .i64 o.st, .int .i64 o.now] 30) := ⟨_, rfl⟩
      have hbw : Below wr.heap.size wr WB := by rw [hWB]; exact (Below.refl wr.heap.size wr).alloc (Nat.le_refl _) _
      have hxb : WB.heap[wr.heap.size]? = some (.cells #[.int .i64 o.k, .int .u64 o.h, .int .i64 o.dl, .int .i64 o.st, .int .i64 o.now] 30 (0, 0)) := by rw [hWB]; exact heap_alloc_new wr _
      have hxl : wr.heap.size < WB.heap.size := by rw [hWB]; simp
      have hFx := hinv.mod.upd' (b := wr.heap.size) (Nat.le_refl _)
      have hiB := hinv.below hbw
      have HWB := Lib.hid hWB
      have hTl : T.length ≤ 100 := by have := hinv.len; omega
      have hml : T.length < maxLen := by simp only [maxLen]; omega
      clear hcs ho_i hoV hWB
      cases hlb : legalB T o.k o.h o.dl o.now with
      | false =>
        have HD := Lib.hid (show doT T o.k o.h o.dl o.now = T from by unfold doT; rw [hlb]; rfl)
        have HLB := Lib.hid hlb
        clear hlb
        go_wp2_with fail
        rw [← HWB.out]
        refine (Copy_any hiB.mod (by omega)).mono ?_
        rintro e w2 hcp
        obtain ⟨np, nl, nw, rfl, hC2, g1, g2, g3, hb2⟩ := copied_own hcp
        go_wp2_with fail
        refine (Live_any hC2 (by omega)).mono ?_
        rintro e w3 ⟨A1, c1, ss1, rfl, hL1, hl1, hs1, hb3⟩
        have hb23 := hb2.trans (hb3.mono hb2.size)
        have hx3 := (hb23.block wr.heap.size hxl).trans hxb
        obtain ⟨x0, x1, x2, x3, x4⟩ := box5 hx3
        have C := Do_any (hiB.below hb23).mod o.k o.h o.dl o.st o.now hof.1 hml
        rw [HLB.out] at C
        go_wp2_with fail
        refine C.mono ?_
        rintro e w4 ⟨rfl, hM4, hu4⟩
        have hi4 := (hiB.below hb23).turned (dl_of_ok hof) hM4 hu4
        clear C
        have hlm := hiB.mod.ltp
        have hll := hiB.mod.ltl
        have hlw := hiB.mod.ltw
        have hC4 := (hC2.below hb3).upd hu4 (fun k _ hk e => by omega)
        have hx4 := hu4.heap hx3 hFx
        have hs14 := hs1.upd hu4 (fun k hk _ e => by have := hb2.size; omega)
        go_wp2_with fail
        refine (Live_any hC4 (by omega)).mono ?_
        rintro e w5 ⟨A2, c2, ss2, rfl, hL2, hl2, hs2, hb5⟩
        obtain rfl : ss2 = ss1 := lists_one hL2 hL1 (fun _ _ => rfl)
        go_wp2_with fail
        refine (same_any ss2 A2 A1 c2 c1 w5 (hs2.mono (fun _ _ _ => trivial)) ((hs14.below hb5).mono (fun _ _ _ => trivial)) hl1).mono ?_
        rintro e w6 ⟨rfl, hb6⟩
        have hb46 := hb5.trans (hb6.mono hb5.size)
        have hx6 := (hb46.block wr.heap.size (by have := hu4.size; have := hb23.size; omega)).trans hx4
        obtain ⟨y0, y1, y2, y3, y4⟩ := box5 hx6
        have C := Legal_any (hC4.below hb46) o.k o.h o.dl o.st o.now hof.1
        rw [HLB.out] at C
        go_wp2_with fail
        refine C.mono ?_
        rintro e w7 ⟨rfl, hb7⟩
        have hb47 := hb46.trans (hb7.mono hb46.size)
        have hx7 := (hb47.block wr.heap.size (by have := hu4.size; have := hb23.size; omega)).trans hx4
        obtain ⟨z0, z1, z2, z3, z4⟩ := box5 hx7
        have hi7 := hi4.below hb47
        clear C hC2 hC4 hs1 hs2 hs14 hL1 hL2 hb2 hb3 hb23 hb5 hb6 hb7 hb46 hb47 hx3 hx4 hx6 hx7 x0 x1 x2 x3 x4 y0 y1 y2 y3 y4 hu4 hM4 hi4 hcp
        go_wp2_with fail
        go_roundw
        case rel => exact ⟨i + 1, T, by omega, by go_num, rfl, rfl, by rw [← HD.out]; exact hi7⟩
        case measure => simp [intOf]; omega
      | true =>
        have HLB := Lib.hid hlb
        clear hlb
        go_wp2_with fail
        rw [← HWB.out]
        refine (Copy_any hiB.mod (by omega)).mono ?_
        rintro e w2 hcp
        obtain ⟨np, nl, nw, rfl, hC2, g1, g2, g3, hb2⟩ := copied_own hcp
        go_wp2_with fail
        refine (Live_any hC2 (by omega)).mono ?_
        rintro e w3 ⟨A1, c1, ss1, rfl, hL1, hl1, hs1, hb3⟩
        have hb23 := hb2.trans (hb3.mono hb2.size)
        have hx3 := (hb23.block wr.heap.size hxl).trans hxb
        obtain ⟨x0, x1, x2, x3, x4⟩ := box5 hx3
        have C := Do_any (hiB.below hb23).mod o.k o.h o.dl o.st o.now hof.1 hml
        rw [HLB.out] at C
        go_wp2_with fail
        refine C.mono ?_
        rintro e w4 ⟨rfl, hM4, hu4⟩
        have hi4 := (hiB.below hb23).turned (dl_of_ok hof) hM4 hu4
        clear C
        have hlm := hiB.mod.ltp
        have hll := hiB.mod.ltl
        have hlw := hiB.mod.ltw
        have hC4 := (hC2.below hb3).upd hu4 (fun k _ hk e => by omega)
        have hx4 := hu4.heap hx3 hFx
        have hs14 := hs1.upd hu4 (fun k hk _ e => by have := hb2.size; omega)
        go_wp2_with fail
        refine (Live_any hC4 (by omega)).mono ?_
        rintro e w5 ⟨A2, c2, ss2, rfl, hL2, hl2, hs2, hb5⟩
        obtain rfl : ss2 = ss1 := lists_one hL2 hL1 (fun _ _ => rfl)
        go_wp2_with fail
        refine (same_any ss2 A2 A1 c2 c1 w5 (hs2.mono (fun _ _ _ => trivial)) ((hs14.below hb5).mono (fun _ _ _ => trivial)) hl1).mono ?_
        rintro e w6 ⟨rfl, hb6⟩
        have hb46 := hb5.trans (hb6.mono hb5.size)
        have hx6 := (hb46.block wr.heap.size (by have := hu4.size; have := hb23.size; omega)).trans hx4
        obtain ⟨y0, y1, y2, y3, y4⟩ := box5 hx6
        have C := Legal_any (hC4.below hb46) o.k o.h o.dl o.st o.now hof.1
        rw [HLB.out] at C
        go_wp2_with fail
        refine C.mono ?_
        rintro e w7 ⟨rfl, hb7⟩
        have hb47 := hb46.trans (hb7.mono hb46.size)
        have hx7 := (hb47.block wr.heap.size (by have := hu4.size; have := hb23.size; omega)).trans hx4
        obtain ⟨z0, z1, z2, z3, z4⟩ := box5 hx7
        have hi7 := hi4.below hb47
        clear C hC2 hC4 hs1 hs2 hs14 hL1 hL2 hb2 hb3 hb23 hb5 hb6 hb7 hb46 hb47 hx3 hx4 hx6 hx7 x0 x1 x2 x3 x4 y0 y1 y2 y3 y4 hu4 hM4 hi4 hcp
        have hl := HLB.out
        by_cases hh : o.h = h
        · subst hh
          have th : (o.h == o.h) = true := by simp
          by_cases k1 : o.k = 1
          · have t1 : (o.k == 1) = true := by simp [k1]
            have t2 : (o.k == 2) = false := by simp [k1]
            have t3 : (o.k == 3) = false := by simp [k1]
            have hl1' := hl
            rw [k1] at hl1'
            obtain ⟨m1, m2, m3, m4⟩ : nMade T o.h = 0 ∧ nGone T o.h = 0 ∧ nMade (doT T o.k o.h o.dl o.now) o.h = 1 ∧ nGone (doT T o.k o.h o.dl o.now) o.h = 0 := by rw [k1]; exact count_made hl1'
            rw [m1, m2]
            have M3 := Lib.hid m3
            have M4 := Lib.hid m4
            clear k1 hl hl1' m1 m2 m3 m4
            go_wp2_with fail
            go_roundw
            case rel => exact ⟨i + 1, _, by omega, by go_num, by rw [M3.out], by rw [M4.out], hi7⟩
            case measure => simp [intOf]; omega
          · have t1 : (o.k == 1) = false := by simp [k1]
            by_cases k2 : o.k = 2
            · have t2 : (o.k == 2) = true := by simp [k2]
              have hdn : ¬ o.now < o.dl := by
                have hl2' := hl
                rw [k2] at hl2'
                unfold legalB at hl2'
                rw [if_neg (by decide : ¬ (2 : Int) = 1), if_pos rfl, Bool.and_eq_true, Bool.and_eq_true] at hl2'
                obtain ⟨⟨_, e1⟩, e2⟩ := hl2'
                have e1' := eq_of_beq e1
                have e2' := of_decide_eq_true e2
                omega
              obtain ⟨m1, m2, m3, m4⟩ := count_gone hl (.inl k2)
              rw [m1, m2]
              have M3 := Lib.hid m3
              have M4 := Lib.hid m4
              clear k1 k2 hl m1 m2 m3 m4
              go_wp2_with fail
              go_roundw
              case rel => exact ⟨i + 1, _, by omega, by go_num, by rw [M3.out], by rw [M4.out], hi7⟩
              case measure => simp [intOf]; omega
            · have t2 : (o.k == 2) = false := by simp [k2]
              by_cases k3 : o.k = 3
              · have t3 : (o.k == 3) = true := by simp [k3]
                obtain ⟨m1, m2, m3, m4⟩ := count_gone hl (.inr k3)
                rw [m1, m2]
                have M3 := Lib.hid m3
                have M4 := Lib.hid m4
                clear k1 k2 k3 hl m1 m2 m3 m4
                go_wp2_with fail
                go_roundw
                case rel => exact ⟨i + 1, _, by omega, by go_num, by rw [M3.out], by rw [M4.out], hi7⟩
                case measure => simp [intOf]; omega
              · have t3 : (o.k == 3) = false := by simp [k3]
                have hT : doT T o.k o.h o.dl o.now = T := count_rest ⟨k1, k2, k3⟩ o.h
                rw [hT] at hi7
                have b1 : nMade T o.h ≤ 1 := by unfold nMade; split <;> omega
                have b2 : nGone T o.h ≤ nMade T o.h := by
                  unfold nMade nGone
                  split
                  · rename_i hx; rw [if_pos hx.1]; exact Int.le_refl _
                  · split <;> omega
                have b3 : ¬ 1 < nMade T o.h := by omega
                have b4 : ¬ nMade T o.h < nGone T o.h := by omega
                generalize hmd : nMade T o.h = md at b1 b2 b3 b4 ⊢
                generalize hgn : nGone T o.h = gn at b2 b4 ⊢
                have Hmd := Lib.hid hmd
                have Hgn := Lib.hid hgn
                clear k1 k2 k3 hl hT b1 b2 hmd hgn
                go_wp2_with fail
                go_roundw
                case rel => exact ⟨i + 1, T, by omega, by go_num, by rw [Hmd.out], by rw [Hgn.out], hi7⟩
                case measure => simp [intOf]; omega
        · have th : (o.h == h) = false := by simp [hh]
          obtain ⟨m1, m2⟩ := count_other (T := T) (k := o.k) (x := o.h) (dl := o.dl) (now := o.now) (h := h) (.inl hh)
          have M1 := Lib.hid m1
          have M2 := Lib.hid m2
          clear hh hl m1 m2
          go_wp2_with fail
          go_roundw
          case rel => exact ⟨i + 1, _, by omega, by go_num, by rw [M1.out], by rw [M2.out], hi7⟩
          case measure => simp [intOf]; omega
    · obtain rfl : i = ops.length := by omega
      go_wp2_with fail
      refine (Live_any hinv.mod (by have := hinv.len; omega)).mono ?_
      rintro e w2 ⟨A1, c1, ss, rfl, hL, hl, hs, hb2⟩
      have hcnt : ((ss.count h : Nat) : Int) = nMade T h - nGone T h := by
        rw [← count_live]
        have hnd : ss.Nodup := hL.1.imp (fun h => by omega)
        rw [hnd.count]
        have hm := hL.2 h
        by_cases hx : h ∈ ss
        · rw [if_pos hx, if_pos (hm.1 hx).1]; rfl
        · rw [if_neg hx, if_neg (fun e => hx (hm.2 ⟨e, rfl⟩))]; rfl
      have b1 : 0 ≤ nMade T h ∧ nMade T h ≤ 1 := by unfold nMade; split <;> omega
      have b2 : 0 ≤ nGone T h ∧ nGone T h ≤ 1 := by unfold nGone; split <;> omega
      have HC := Lib.hid hcnt
      clear hcnt hd1
      rw [one_flat] at hs
      have hbw2 := hinv.low.trans (hb2.mono hinv.low.size)
      go_wp2_with fail
      go_loopw [13, 15] (fun v13 v15 wr2 => ∃ (j c : Nat), j ≤ ss.length ∧ c ≤ j ∧ v15 = .int .i64 j ∧ v13 = .int .i64 c ∧ Hid (c = (ss.take j).count h) ∧ Below w2.heap.size w2 wr2) (fun _ v15 _ => ss.length - (intOf v15).toNat)
      case atStart => exact ⟨0, 0, Nat.zero_le _, Nat.le_refl _, rfl, rfl, Lib.hid (by simp), Below.refl _ _⟩
      case round =>
        obtain ⟨j, c, hjl, hcj, rfl, rfl, Hc, hbj⟩ := hrel
        by_cases hj : j < ss.length
        · obtain ⟨x, hx⟩ : ∃ x, ss[j]? = some x := ⟨_, List.getElem?_eq_getElem hj⟩
          obtain ⟨b, off, rfl, _, _, hc⟩ := sr_at (fun x => [encW x]) 1 (fun _ => rfl) (by decide) hs hbj hx
          have q0 := hc 0 _ rfl
          rw [Nat.add_zero, Nat.mul_one] at q0
          have a1 : (0 : Int) ≤ (j : Int) := Int.natCast_nonneg _
          have a2 : (j : Int) < (ss.length : Int) := by omega
          have hstep : (ss.take (j + 1)).count h = (ss.take j).count h + (if x = h then 1 else 0) := by
            rw [List.take_succ_eq_append_getElem hj, List.count_append, (List.getElem?_eq_some_iff.1 hx).2]
            by_cases e : x = h
            · simp [e]
            · simp [e]
          by_cases e : x = h
          · have t0 : (x == h) = true := by simp [e]
            rw [if_pos e, ← Hc.out] at hstep
            have HS := Lib.hid hstep.symm
            clear hstep hc hx e
            go_wp2_with fail
            go_roundw
            case rel => exact ⟨j + 1, c + 1, by omega, by omega, by go_num, by go_num, HS, hbj⟩
            case measure => simp [intOf]; omega
          · have t0 : (x == h) = false := by simp [e]
            rw [if_neg e, ← Hc.out] at hstep
            have HS := Lib.hid (show c = (ss.take (j + 1)).count h from by omega)
            clear hstep hc hx e
            go_wp2_with fail
            go_roundw
            case rel => exact ⟨j + 1, c, by omega, by omega, by go_num, rfl, HS, hbj⟩
            case measure => simp [intOf]; omega
        · obtain rfl : j = ss.length := by omega
          have hcc : (c : Int) = nMade T h - nGone T h := by
            rw [← HC.out, Hc.out, List.take_of_length_le (Nat.le_refl _)]
          have a3 : IntKind.i64.wrap (nMade T h - nGone T h) = nMade T h - nGone T h := IntWalk.i64_in _ (by omega)
          generalize nMade T h = md at a3 hcc b1
          generalize nGone T h = gn at a3 hcc b2
          have t0 : ((c : Int) == md - gn) = true := by simp [hcc]
          clear hcc b1 b2
          go_wp2_with fail
          refine (awake_any _).mono ?_
          rintro e w9 ⟨rfl, hb9⟩
          go_wp2_with fail
          go_ret
          exact ⟨rfl, (hbw2.trans (hbj.mono hbw2.size)).trans (hb9.mono (Nat.le_trans hbw2.size hbj.size))⟩
end Go.Proofs.Ytoikjokdabpmoaa
