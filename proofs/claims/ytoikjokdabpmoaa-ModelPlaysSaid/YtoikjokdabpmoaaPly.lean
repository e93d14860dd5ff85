/- ModelPlays, walked: it answers true. -/
import Derived.Test.YtoikjokdabpmoaaOnc
import Derived.Test.YtoikjokdabpmoaaDue
import Derived.Test.YtoikjokdabpmoaaRf3
import Derived.Test.YtoikjokdabpmoaaRf5
import Derived.Deep.RegionLaw
namespace Go.Proofs.Ytoikjokdabpmoaa
open Go.RowKit Go.Maps

theorem dist_do {T : List Tm} (hd : T.Pairwise (fun a b => a.h ≠ b.h)) (k x dl now : Int) : (doT T k x dl now).Pairwise (fun a b => a.h ≠ b.h) := by
  unfold doT
  split
  · rename_i hl
    split
    · rename_i hk
      subst hk
      have hno : wereB T x = false := by simpa [legalB] using hl
      refine List.pairwise_append.2 ⟨hd, List.pairwise_singleton _ _, fun a ha b hb => ?_⟩
      rw [List.mem_singleton.1 hb]
      intro e
      have : wereB T x = true := List.any_eq_true.2 ⟨a, ha, by simpa using e⟩
      rw [hno] at this
      cases this
    · split
      · unfold kill
        rw [List.pairwise_map]
        refine hd.imp fun {a b} h => ?_
        split <;> split <;> exact h
      · exact hd
  · exact hd

/-- Where the loop of ModelPlays stands: the model, and the reference's timers. -/
structure PInv (w : World) (mp bl bw i : Nat) (T : List Tm) (A : Option Addr) (wr : World) : Prop where
  inv : OInv w mp bl bw i T wr
  dist : T.Pairwise (fun a b => a.h ≠ b.h)
  rows : SR wr (fun k => ¬ (k = mp ∨ k = bl ∨ k = bw)) A (tmsV T)

set_option maxRecDepth 100000 in
set_option maxHeartbeats 16000000 in
theorem plays_any (A : Option Addr) (ca : Nat) (ops : List OpM) (w : World) (hn : ops.length ≤ 100) (ho : SR w (fun _ => True) A (opsM ops)) (hok : ∀ o ∈ ops, OpOk o) :
    Calls Try.prog 4 #[.slice A ops.length ca] w (Answer true w) := by
  have hd1 : ¬ (100 : Int) < (ops.length : Int) := by omega
  go_enter Try.func4, Try.ntmps4
  go_wp2_with fail
  refine (awake_any _).mono ?_
  rintro e w0 ⟨rfl, hb0⟩
  go_wp2_with fail
  refine (New_any w0).mono ?_
  rintro e w1 ⟨mp, bl, bw, rfl, hk1, hw1⟩
  have hw01 := hb0.trans (hw1.mono hb0.size)
  have hstart : OInv w mp bl bw 0 [] w1 := { mod := hk1.own, lm := Nat.le_trans hb0.size hk1.fm, ll := Nat.le_trans hb0.size hk1.fl, lw := Nat.le_trans hb0.size hk1.fw, len := Nat.le_refl _, dls := fun t ht => (by cases ht), low := hw01 }
  clear hk1
  go_wp2_with fail
  go_loopw [5, 6] (fun v5 v6 wr => ∃ (i : Nat) (T : List Tm) (A' : Option Addr) (c' : Nat), i ≤ ops.length ∧ v6 = .int .i64 i ∧ v5 = .slice A' T.length c' ∧ PInv w mp bl bw i T A' wr) (fun _ v6 _ => ops.length - (intOf v6).toNat)
  case atStart => exact ⟨0, [], none, 0, Nat.zero_le _, rfl, rfl, hstart, List.Pairwise.nil, SR.nil _ _ _⟩
  case round =>
    obtain ⟨i, T, A', c', hil, rfl, rfl, ⟨hinv, hdist, hrows⟩⟩ := hrel
    by_cases hlt : i < ops.length
    · obtain ⟨o, ho_i, hoV⟩ : ∃ o, ops[i]? = some o ∧ o ∈ ops := ⟨_, List.getElem?_eq_getElem hlt, List.getElem_mem _⟩
      obtain ⟨b, off, rfl, _, _, hcs⟩ := sr_at opM 5 (fun _ => rfl) (by decide) ho hinv.low ho_i
      have hof := hok o hoV
      have q0 := hcs 0 _ rfl
      rw [Nat.add_zero] at q0
      have q1 := hcs 1 _ rfl
      have q2 := hcs 2 _ rfl
      have q3 := hcs 3 _ rfl
      have q4 := hcs 4 _ rfl
      have hi1 : (0 : Int) ≤ (i : Int) := Int.natCast_nonneg _
      have hi2 : (i : Int) < (ops.length : Int) := by omega
      have hwrs := hinv.low.size
      obtain ⟨WB, hWB⟩ : ∃ WB, WB = wr.alloc (.cells #[.int .i64 o.k, .int .u64 o.h, .int .i64 o.dl, .int .i64 o.st, .int .i64 o.now] 30) := ⟨_, rfl⟩
      have hbw : Below wr.heap.size wr WB := by rw [hWB]; exact (Below.refl wr.heap.size wr).alloc (Nat.le_refl _) _
      have hxb : WB.heap[wr.heap.size]? = some (.cells #[.int .i64 o.k, .int .u64 o.h, .int .i64 o.dl, .int .i64 o.st, .int .i64 o.now] 30 (0, 0)) := by rw [hWB]; exact heap_alloc_new wr _
      have hxl : wr.heap.size < WB.heap.size := by rw [hWB]; simp
      have hFx := hinv.mod.upd' (b := wr.heap.size) (Nat.le_refl _)
      have hiB := hinv.below hbw
      have hrB := hrows.below hbw
      have HWB := Lib.hid hWB
      have hTl : T.length ≤ 100 := by have := hinv.len; omega
      have hml : T.length < maxLen := by simp only [maxLen]; omega
      obtain ⟨lb, hlb⟩ : ∃ lb, legalB T o.k o.h o.dl o.now = lb := ⟨_, rfl⟩
      have HLB := Lib.hid hlb
      have HDist := Lib.hid hdist
      obtain ⟨nw, hnw⟩ : ∃ nw, nw = o.now := ⟨_, rfl⟩
      have HNW := Lib.hid hnw
      clear hcs ho_i hoV hWB hlb hdist hnw
      go_wp2_with fail
      rw [← HWB.out]
      have C := rlegal_any HDist.out A' c' o.k o.h o.dl o.st o.now WB (by omega) (hrB.mono (fun _ _ _ => trivial))
      rw [HLB.out] at C
      refine C.mono ?_
      rintro e w2 ⟨rfl, hb2⟩
      have hx2 := (hb2.block wr.heap.size hxl).trans hxb
      obtain ⟨x0, x1, x2, x3, x4⟩ := box5 hx2
      clear C
      go_wp2_with fail
      refine (rdo_any HDist.out _ A' c' o.k o.h o.dl o.st o.now w2 (by omega) (hrB.below hb2)).mono ?_
      rintro e w3 ⟨A2, c2, rfl, hr3, hb3⟩
      have hb23 := hb2.trans (hb3.mono hb2.size)
      have hx3 := (hb23.block wr.heap.size hxl).trans hxb
      obtain ⟨y0, y1, y2, y3, y4⟩ := box5 hx3
      have C := Legal_any (hiB.below hb23).mod o.k o.h o.dl o.st o.now hof.1
      rw [HLB.out] at C
      clear x0 x1 x2 x3 x4 hx2
      go_wp2_with fail
      refine C.mono ?_
      rintro e w4 ⟨rfl, hb4⟩
      have hb24 := hb23.trans (hb4.mono hb23.size)
      have hx4 := (hb24.block wr.heap.size hxl).trans hxb
      obtain ⟨u0, u1, u2, u3, u4⟩ := box5 hx4
      have hi4 := hiB.below hb24
      clear C
      have C := Do_any hi4.mod o.k o.h o.dl o.st o.now hof.1 hml
      rw [HLB.out] at C
      clear y0 y1 y2 y3 y4 hx3
      go_wp2_with fail
      refine C.mono ?_
      rintro e w5 ⟨rfl, hM5, hu5⟩
      have hi5 := hi4.turned (dl_of_ok hof) hM5 hu5
      have hx5 := hu5.heap hx4 hFx
      obtain ⟨y0, y1, y2, y3, y4⟩ := box5 hx5
      clear C u0 u1 u2 u3 u4
      go_wp2_with fail
      refine (Do_nil _ _ _ _ _ w5).mono ?_
      rintro e w6 ⟨rfl, hb6⟩
      have hxl5 : wr.heap.size < w5.heap.size := (Array.getElem?_eq_some_iff.1 hx5).1
      have hx6 := (hb6.block wr.heap.size hxl5).trans hx5
      obtain ⟨u0, u1, u2, u3, u4⟩ := box5 hx6
      clear y0 y1 y2 y3 y4
      go_wp2_with fail
      refine (Legal_nil _ _ _ _ _ w6).mono ?_
      rintro e w7 ⟨rfl, hb7⟩
      have hb57 := hb6.trans (hb7.mono hb6.size)
      have hx7 := (hb57.block wr.heap.size hxl5).trans hx5
      clear u0 u1 u2 u3 u4 hx6
      have hi7 := hi5.below hb57
      have hr7 : SR w7 (fun k => ¬ (k = mp ∨ k = bl ∨ k = bw)) A2 (tmsV (doT T o.k o.h o.dl o.now)) :=
        (((hr3.mono (fun k _ hk => hk.elim id (fun hk e => by have := hiB.mod.ltp; have := hiB.mod.ltl; have := hiB.mod.ltw; have := hb2.size; omega))).below hb4).upd hu5 (fun k hk _ => hk)).below hb57
      have hds := dist_do HDist.out o.k o.h o.dl o.now
      have hlen7 : (doT T o.k o.h o.dl o.now).length ≤ 101 := by have := do_length T o.k o.h o.dl o.now; omega
      have hxl7 : wr.heap.size < w7.heap.size := (Array.getElem?_eq_some_iff.1 hx7).1
      have hDls := hi7.dls
      generalize hTT : doT T o.k o.h o.dl o.now = T' at hi7 hr7 hds hlen7 hDls
      clear hTT hi5 hM5 hr3 HLB hrB hiB hi4 hu5 hb6 hb7 hb57 hb4 hb3 hb2 hb23 hb24 hx4 hx5 hxb hbw hinv hrows q0 q1 q2 q3 q4 hof hTl hml hxl5 hwrs
      have hbd : Below w7.heap.size w7 w7.drew := (Below.refl w7.heap.size w7).drew
      have hM7 := (hi7.below hbd).mod
      have hR7 := (hr7.below hbd).mono (G' := fun _ => True) (fun _ _ _ => trivial)
      have C8 := Live_any hM7 (by omega : T'.length ≤ 1000)
      have HDs := Lib.hid hds
      clear hds
      go_wp2_with fail
      go_region_with (first
        | (go_at_call 8; refine C8.mono ?_; rintro e w8 ⟨A8, c8, s8, rfl, hL8, hl8, hs8, hb8⟩; have hr8 := hR7.below hb8)
        | (go_at_call_of 14 (Value.int .i64 9223372036854775807); refine (rdue_any HDs.out A2 c2 _ w8 (by omega) hr8).mono ?_; rintro e w9 ⟨A9, c9, s9, rfl, hL9, hl9, hs9, hb9⟩; obtain rfl : s9 = s8 := lists_one hL9 hL8 (fun h _ => by simpa using dl_le hDls h); have hs89 := hs8.below hb9)
        | (go_at_call_of 10 A9; refine (same_any s9 A8 A9 c8 c9 w9 (hs89.mono (fun _ _ _ => trivial)) (hs9.mono (fun _ _ _ => trivial)) hl8).mono ?_; rintro e w10 ⟨rfl, hb10⟩; have hb80 := (hbd.trans (hb8.mono hbd.size)).trans ((hb9.trans (hb10.mono hb9.size)).mono (hbd.trans (hb8.mono hbd.size)).size); have hx10 := (hb80.block wr.heap.size hxl7).trans hx7; obtain ⟨_, _, _, _, z4⟩ := box5 hx10; have hM10 := (hi7.below hb80).mod; have hR10 := (hr7.below hb80).mono (G' := fun _ => True) (fun _ _ _ => trivial))
        | (go_at_call 15; refine (Due_any hM10 (by omega) _).mono ?_; rintro e w11 ⟨A11, c11, s11, rfl, hL11, hl11, hs11, hb11⟩; have hx11 := (hb11.block wr.heap.size (by have := hb80.size; omega)).trans hx10; obtain ⟨_, _, _, _, z4'⟩ := box5 hx11; have hr11 := hR10.below hb11)
        | (go_at_call 14; refine (rdue_any HDs.out A2 c2 _ w11 (by omega) hr11).mono ?_; rintro e w12 ⟨A12, c12, s12, rfl, hL12, hl12, hs12, hb12⟩; obtain rfl : s12 = s11 := lists_one hL12 hL11 (fun _ _ => rfl); have hs112 := hs11.below hb12)
        | (go_at_call_of 10 A12; refine (same_any s12 A11 A12 c11 c12 w12 (hs112.mono (fun _ _ _ => trivial)) (hs12.mono (fun _ _ _ => trivial)) hl11).mono ?_; rintro e w13 ⟨rfl, hb13⟩; have hb713 := hb80.trans ((hb11.trans ((hb12.trans (hb13.mono hb12.size)).mono hb11.size)).mono hb80.size)))
      all_goals go_wp2_with fail
      all_goals go_roundw
      all_goals first
        | exact ⟨i + 1, T', A2, c2, by omega, by go_num, rfl, hi7.below hb713, HDs.out, hr7.below hb713⟩
        | (simp [intOf]; omega)
    · obtain rfl : i = ops.length := by omega
      go_wp2_with fail
      refine (Live_nil _).mono ?_
      rintro e w2 ⟨rfl, rfl⟩
      go_wp2_with fail
      refine (Due_nil _ _).mono ?_
      rintro e w3 ⟨rfl, hb3⟩
      go_wp2_with fail
      refine (Copy_nil _).mono ?_
      rintro e w4 ⟨rfl, rfl⟩
      go_wp2_with fail
      refine (awake_any _).mono ?_
      rintro e w9 ⟨rfl, hb9⟩
      go_wp2_with fail
      go_ret
      exact ⟨rfl, hinv.low.trans ((hb3.trans (hb9.mono hb3.size)).mono hinv.low.size)⟩
end Go.Proofs.Ytoikjokdabpmoaa
