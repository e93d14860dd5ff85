/- The reference's Due, walked: the loops. -/
import Derived.Test.YtoikjokdabpmoaaRf4
namespace Go.Proofs.Ytoikjokdabpmoaa
open Go.RowKit Go.Maps

set_option maxRecDepth 100000 in
set_option maxHeartbeats 16000000 in
theorem rdue_any {T : List Tm} (hd : T.Pairwise (fun a b => a.h ≠ b.h)) (A : Option Addr) (c : Nat) (now : Int) (w : World) (hl : T.length ≤ 1000) (hA : SR w (fun _ => True) A (tmsV T)) :
    Calls Try.prog 14 #[.slice A T.length c, .int .i64 now] w (Listed T (fun d => decide (d ≤ now)) w) := by
  obtain ⟨i0, hi0, hz0, hz1, hz2⟩ := info_parts info23
  go_enter Try.func14, Try.ntmps14
  go_wp2_with fail
  go_loopw [5, 6] (fun v5 v6 wr => ∃ (i n : Nat) (S : List Int) (A' : Option Addr) (c' : Nat), i ≤ T.length ∧ n ≤ i ∧ v6 = .int .i64 i ∧ v5 = .slice A' n c' ∧ Hid (Lst (T.take i) now S) ∧ Hid (S.length = n) ∧ wr.ownsRow w.heap.size 23 1 (.slice A' n c') n (S.map encW) ∧ Below w.heap.size w wr)
    (fun _ v6 _ => T.length - (intOf v6).toNat)
  case atStart => exact ⟨0, 0, [], none, 0, Nat.zero_le _, Nat.le_refl _, rfl, rfl, Lib.hid ⟨List.Pairwise.nil, fun h => by simp⟩, Lib.hid rfl, ⟨by simp, .inl ⟨rfl, rfl⟩⟩, Below.refl _ _⟩
  case round =>
    obtain ⟨i, n, S, A', c', hil, hni, rfl, rfl, HS, HSl, hown, hbw⟩ := hrel
    by_cases hlt : i < T.length
    · obtain ⟨t, ht⟩ : ∃ t, T[i]? = some t := ⟨_, List.getElem?_eq_getElem hlt⟩
      obtain ⟨b, off, rfl, _, _, hc⟩ := sr_at tmV 3 (fun _ => rfl) (by decide) hA hbw ht
      have q0 := hc 0 _ rfl
      rw [Nat.add_zero] at q0
      have q1 := hc 1 _ rfl
      have q2 := hc 2 _ rfl
      have hi1 : (0 : Int) ≤ (i : Int) := Int.natCast_nonneg _
      have hi2 : (i : Int) < (T.length : Int) := by omega
      have hws := hbw.size
      cases hlv : t.live with
      | false =>
        rw [hlv] at q2
        have HS' := Lib.hid (lst_skip ht HS.out (by rw [hlv]; simp))
        clear hc ht hlv
        go_wp2_with fail
        go_roundw
        case rel => exact ⟨i + 1, n, S, A', c', by omega, by omega, by go_num, rfl, HS', HSl, hown, hbw⟩
        case measure => simp [intOf]; omega
      | true =>
        rw [hlv] at q2
        by_cases hdl : now < t.dl
        · have HS' := Lib.hid (lst_skip ht HS.out (by omega))
          clear hc ht hlv
          go_wp2_with fail
          go_roundw
          case rel => exact ⟨i + 1, n, S, A', c', by omega, by omega, by go_num, rfl, HS', HSl, hown, hbw⟩
          case measure => simp [intOf]; omega
        · have hnot := lst_not hd ht HS.out
          have HN := Lib.hid hnot
          have HT := Lib.hid ht
          have HY := Lib.hid (show t.live = true ∧ t.dl ≤ now from ⟨hlv, by omega⟩)
          clear hc ht hlv hnot
          go_wp2_with (at_builtin; refine wpList_append_own_at _ rfl (.tmp 30) (.tmp 36) 31 rfl w.heap.size 23 i0 _ 1 8 Try.underlying31 hi0 hz0 hz1 hz2 rfl (by decide) _ n _ rfl (hown.alloc _) ⟨wr.heap.size, 0, none⟩ 1 1 [.int .u64 t.h] rfl rfl (World.news_of_block (cs := #[.int .u64 t.h]) (t := 23) (fr := (0, 0)) (heap_alloc_new wr _)) (by simp [Value.oneCell']) (by simp only [maxLen]; omega) (by omega) (by simp; omega) ?_; intro v1 w1 hown1 hg1 hnil1 hat1; obtain ⟨g, c1, rfl⟩ := own_succ hown1; have hb1 : Below w.heap.size w w1 := (hbw.alloc (by omega) _).grown hg1 (by simp; omega) (fun q hq => (hown.lt q hq).1))
          have hS1 : ((S ++ [t.h]).map encW) = (ins S t.h n).map encW := by rw [← HSl.out, ins_end]
          have hrow1 : w1.ownsRow w.heap.size 23 1 (.slice (some ⟨g, 0, none⟩) (n + 1) c1) (n + 1) ((ins S t.h n).map encW) := by rw [← hS1]; simpa using hown1
          obtain ⟨N, hN⟩ : ∃ N, N = n + 1 := ⟨_, rfl⟩
          have hw : IntKind.i64.wrap ((N : Int) - 1) = (n : Int) := by rw [show (N : Int) - 1 = (n : Int) from by omega]; exact IntWalk.i64_in _ (by omega)
          have HR1 := Lib.hid hrow1
          clear hown1 hrow1 hS1 q0 q1 q2
          rw [← hN]
          have hN1 : N ≤ n + 1 := by omega
          have hN2 : n + 1 ≤ N := by omega
          have HNN := Lib.hid hN
          clear hN
          go_wp2_with fail
          go_loopw [7] (fun v7 wr2 => ∃ j : Nat, v7 = .int .i64 j ∧ j ≤ n ∧ Hid (∀ y ∈ S.drop j, t.h < y) ∧ Hid (wr2.ownsRow w.heap.size 23 1 (.slice (some ⟨g, 0, none⟩) N c1) N ((ins S t.h j).map encW)) ∧ Below w.heap.size w wr2) (fun v7 _ => (intOf v7).toNat)
          case atStart => exact ⟨n, by first | rfl | go_num, Nat.le_refl _, Lib.hid (fun y hy => by rw [List.drop_of_length_le (Nat.le_of_eq HSl.out)] at hy; cases hy), Lib.hid (by rw [HNN.out]; exact HR1.out), hb1⟩
          case round =>
            obtain ⟨j, rfl, hjn, HG, HR, hbj⟩ := hrel
            have hbd := hbj.drew
            by_cases hj : 0 < j
            · have hjl : j - 1 < S.length := by have := HSl.out; omega
              obtain ⟨y, hy⟩ : ∃ y, S[j - 1]? = some y := ⟨_, List.getElem?_eq_getElem hjl⟩
              have hjs : j ≤ S.length := by omega
              have c0 : wr.cell? ⟨g, j, none⟩ = some (.int .u64 t.h) := (HR.out.cellAt j (by omega)).trans (by rw [List.getElem?_map, ins_at S t.h j hjs]; rfl)
              have c1' : wr.cell? ⟨g, j - 1, none⟩ = some (.int .u64 y) := (HR.out.cellAt (j - 1) (by omega)).trans (by rw [List.getElem?_map, ins_before S t.h j (j - 1) hjs (by omega), hy]; rfl)
              have d0 : wr.drew.cell? ⟨g, j, none⟩ = some (.int .u64 t.h) := c0
              have d1 : wr.drew.cell? ⟨g, j - 1, none⟩ = some (.int .u64 y) := c1'
              have f0 : wr.drew.frozen? ⟨g, j, none⟩ = false := HR.out.frozenAt j
              have f1 : wr.drew.frozen? ⟨g, j - 1, none⟩ = false := HR.out.frozenAt (j - 1)
              have a0 : (0 : Int) ≤ (j : Int) := by omega
              have a1 : (j : Int) < (N : Int) := by omega
              have a2 : (0 : Int) < (j : Int) := by omega
              have a3 : IntKind.i64.wrap ((j : Int) - 1) = (j : Int) - 1 := IntWalk.i64_in _ (by omega)
              have a4 : (0 : Int) ≤ (j : Int) - 1 := by omega
              have a5 : (j : Int) - 1 < (N : Int) := by omega
              have a6 : ((j : Int) - 1).toNat = j - 1 := by omega
              have hown2 := ((HR.out.stored j (.int .u64 y)).1.stored (j - 1) (.int .u64 t.h)).1
              have hset : (((ins S t.h j).map encW).set j (.int .u64 y)).set (j - 1) (.int .u64 t.h) = (ins S t.h (j - 1)).map encW := by
                have := ins_step S t.h y (j - 1) (by omega) hy
                rw [Nat.sub_add_cancel hj] at this
                rw [← this, List.map_set, List.map_set]
              rw [hset] at hown2
              have HO2 := Lib.hid hown2
              have hgb := (HR.out.lt g rfl).1
              by_cases hlt2 : t.h < y
              · have HG2 : Hid (∀ z ∈ S.drop (j - 1), t.h < z) := Lib.hid (fun z hz => by
                  have e := List.drop_eq_getElem_cons (l := S) (i := j - 1) hjl
                  rw [e, Nat.sub_add_cancel hj] at hz
                  rcases List.mem_cons.1 hz with hz | hz
                  · rw [(List.getElem?_eq_some_iff.1 hy).2] at hz
                    rw [hz]; exact hlt2
                  · exact HG.out z hz)
                have hbs : Below w.heap.size w ((wr.drew.setCell ⟨g, j, none⟩ (.int .u64 y)).setCell ⟨g, j - 1, none⟩ (.int .u64 t.h)) := (hbd.setCell (p := ⟨g, j, none⟩) hgb _).setCell (p := ⟨g, j - 1, none⟩) hgb _
                have n1 : ¬ j = j - 1 := by omega
                have n2 : ¬ j - 1 = j := by omega
                have f0' : wr.frozen? ⟨g, j, none⟩ = false := f0
                have f1' : wr.frozen? ⟨g, j - 1, none⟩ = false := f1
                clear hy hown2 hset hjl hjs hnil1 hat1 hg1
                go_wp2_with fail
                go_region
                all_goals go_wp2_with fail
                all_goals go_roundw
                case rel => exact ⟨j - 1, by congr 1; omega, by omega, HG2, Lib.hid HO2.out, hbs⟩
                case measure => simp [intOf]; omega
              · have hne : y ≠ t.h := fun e => HN.out (e ▸ List.mem_of_getElem? hy)
                have hsort : (ins S t.h j).Pairwise (· < ·) := ins_sorted HS.out.1 (by
                  have := take_below HS.out.1 hy (x := t.h) (by omega)
                  rwa [Nat.sub_add_cancel hj] at this) HG.out
                have HS' := Lib.hid (lst_ins HT.out HS.out HY.out hsort)
                have HL' := Lib.hid (ins_length S t.h j hjs)
                have hlf : ¬ t.h < y := hlt2
                clear hy hown2 hset hjl hjs c0 c1' hsort hne HO2
                go_wp2_with fail
                go_region
                all_goals go_wp2_with fail
                all_goals go_roundw
                case rel => exact ⟨i + 1, N, ins S t.h j, some ⟨g, 0, none⟩, c1, by omega, by omega, by go_num, rfl, HS', Lib.hid (by rw [HL'.out, HSl.out, HNN.out]), HR.out.drew, hbd⟩
                case measure => simp [intOf]; omega
            · obtain rfl : j = 0 := by omega
              have hsort : (ins S t.h 0).Pairwise (· < ·) := ins_sorted HS.out.1 (fun y hy => by simp at hy) HG.out
              have HS' := Lib.hid (lst_ins HT.out HS.out HY.out hsort)
              have HL' := Lib.hid (ins_length S t.h 0 (Nat.zero_le _))
              clear hsort
              go_wp2_with fail
              go_region
              all_goals go_wp2_with fail
              all_goals go_roundw
              case rel => exact ⟨i + 1, N, ins S t.h 0, some ⟨g, 0, none⟩, c1, by omega, by omega, by go_num, rfl, HS', Lib.hid (by rw [HL'.out, HSl.out, HNN.out]), HR.out.drew, hbd⟩
              case measure => simp [intOf]; omega
    · obtain rfl : i = T.length := by omega
      have hLst := HS.out
      rw [List.take_of_length_le (Nat.le_refl _)] at hLst
      have HL := Lib.hid (lst_lists hd hLst)
      clear hLst
      go_wp2_with fail
      go_ret
      exact ⟨A', c', S, by rw [HSl.out]; rfl, HL.out, by rw [HSl.out]; omega, SR.of_own (by simpa [HSl.out] using hown) _ (fun q hq => (hown.lt q hq).1), hbw⟩
end Go.Proofs.Ytoikjokdabpmoaa
