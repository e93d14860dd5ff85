/- (*Book).Done, and the chapter's example, walked. -/
import Derived.Test.YtlabnbfcjpggeaaAll
import Derived.BigQuiet
import Derived.Deep.QuietTactic
import Derived.Lib.QuietBelow
namespace Go.Proofs.Ytlabnbfcjpggeaa
open Go.RowKit Go.Maps

theorem Done_nil (w : World) : Calls Try.prog 18 #[.pointer none] w fun e w' => e = .returned (.int .i64 0) ∧ w = w' := by
  go_enter Try.func18, Try.ntmps18
  go_wp2
  go_ret
  exact ⟨rfl, rfl⟩

theorem open_le (l : List Rec) : open_ l ≤ l.length := List.length_filter_le _ _

set_option maxHeartbeats 1000000 in
theorem Done_any {w : World} {F : Nat → Prop} {bp bm : Nat} {Al : Option Addr} {cl : Nat} {L : List (RH × Rec)} (hb : BookAt w F bp bm Al cl L) (hn : L.length ≤ 1000) :
    Calls Try.prog 18 #[.pointer (some ⟨bp, 0, none⟩)] w fun e w' => e = .returned (.int .i64 ((L.length : Int) - (open_ (L.map (·.2)) : Nat))) ∧ Below w.heap.size w w' := by
  obtain ⟨D, hown, hg, _⟩ := hb.map
  have hs := hg.2.2
  have hc0 := hb.cell0
  have hc1 := hb.cell1
  have ho := open_le (L.map (·.2))
  rw [List.length_map] at ho
  generalize open_ (L.map (·.2)) = k at hs ho
  have Hs := Lib.hid hs
  clear hs hg hb
  have hlen := fun (W : World) (hW : W.ownsMap (H := Unit) Try.prog 3 (plainElem Try.prog 3) bm (L.map (·.2)).length D) => hW.len Try.underlying59 3
  have hlen' : ∀ n, (Builtin.len_ #[59] 3 #[.map (some bm)]).run Try.prog (w.drewN n) = .ok (.int .i64 (k : Nat)) (w.drewN n) := fun n => by rw [hlen (w.drewN n) hown, Hs.out]
  clear hlen
  obtain ⟨es, clk, hm, hm'⟩ := hown
  go_enter Try.func18, Try.ntmps18
  go_wp2_with fail
  go_quiet (fail)
  go_wp2_with fail
  go_ret
  exact ⟨rfl, drewN_below (Below.refl _ _) _⟩

set_option maxRecDepth 100000 in
set_option maxHeartbeats 2000000 in
theorem awake_any (w : World) : Calls Try.prog 5 #[] w fun e w' => e = .returned (.bool true) ∧ Below w.heap.size w w' := by
  have t1 : wf64 1 := by decide
  go_enter Try.func5, Try.ntmps5
  go_wp2_with fail
  refine (New_any w).mono ?_
  rintro e w1 ⟨bp, bm, rfl, hb1, hw1⟩
  go_wp2_with fail
  refine (Begin_ok hb1 1 4 (6, 0, 0, 0, 0) t1 (fun i ⟨r, hr, _⟩ => by simp at hr) (by simp)).mono ?_
  rintro e w2 ⟨rfl, A2, c2, L2, hL2, hb2, hu2⟩
  have hw2 : Below w.heap.size w w2 := hw1.trans (hu2.to_below hw1.size (fun k h => h))
  have hl2 : L2.length = 1 := by have h := congrArg List.length hL2; simpa using h
  have hund : Und (L2.map (·.2)) 1 0 := by rw [hL2]; exact ⟨_, rfl, rfl, rfl⟩
  have hget : (L2.map (·.2))[0]? = some (fresh 1 (6, 0, 0, 0, 0) 4) := by rw [hL2]; rfl
  have HL2 := Lib.hid hL2
  have Hl2 := Lib.hid hl2
  clear hL2 hl2
  go_wp2_with fail
  refine (End_ok hb2 1 9 0 0 true none 0 [] t1 0 _ hund hget (SR.nil _ (fun _ => True) _) (by simp)).mono ?_
  rintro e w3 ⟨rfl, A3, c3, L3, hL3, hb3, hu3⟩
  rw [HL2.out] at hL3
  have hw3 : Below w.heap.size w w3 := hw2.trans (hu3.to_below hw2.size (fun k h => by rcases h with h | h; exact h; have := hw1.size; omega))
  have hl3 : L3.length = 1 := by have h := congrArg List.length hL3; simpa using h
  have hall : ∀ p ∈ L3, p.2.acts.length ≤ 1000 ∧ p.2.batch.length * 24 ≤ 140737488355328 := fun p hp => by
    have h : p.2 ∈ L3.map (·.2) := List.mem_map.2 ⟨p, hp, rfl⟩
    rw [hL3] at h
    simp at h
    rw [h]
    simp [ended, fresh]
  have HL3 := Lib.hid hL3
  have Hl3 := Lib.hid hl3
  clear hL3 hl3 hund hget
  go_wp2_with fail
  refine (All_any hb3 (by rw [Hl3.out]; omega) (fun p hp => (hall p hp).1) (fun p hp => (hall p hp).2)).mono ?_
  rintro e w4 ⟨A4, c4, M, hM, rfl, hM4, hw4⟩
  have hb4 := hb3.below hw4
  have hw4' : Below w.heap.size w w4 := hw3.trans (hw4.mono hw3.size)
  have hMl : M.length = 1 := by have h := congrArg List.length hM; rw [List.length_map, List.length_map, Hl3.out] at h; exact h
  rw [HL3.out] at hM
  obtain ⟨q, hq⟩ : ∃ q, M[0]? = some q := ⟨_, List.getElem?_eq_getElem (by omega)⟩
  have hq2 : q.2 = ended (fresh 1 (6, 0, 0, 0, 0) 4) 9 0 0 true [] := by
    have h : (M.map (·.2))[0]? = some q.2 := by rw [List.getElem?_map, hq]; rfl
    rw [hM] at h
    simp at h
    exact h.symm
  have hrow := hM4.row
  obtain ⟨g, rfl⟩ := own_pos hrow (by omega)
  have hcell : ∀ j, j < 14 → w4.cell? ⟨g, 0 * 14 + j, none⟩ = (recV q)[j]? := fun j hj => (hrow.cellAt (0 * 14 + j) (by omega)).trans (flat_at recV 14 recV_len M 0 q hq j hj)
  have h6 := hcell 6 (by decide)
  have h7 := hcell 7 (by decide)
  have h8 := hcell 8 (by decide)
  have h10 := hcell 10 (by decide)
  simp [recV, hq2, ended, fresh] at h6 h7 h8 h10
  have HMl := Lib.hid hMl
  have hd := Done_any hb4 (by rw [Hl3.out]; omega)
  rw [HL3.out, Hl3.out, show open_ ((List.map (fun (x : RH × Rec) => x.2) [] ++ [fresh 1 (6, 0, 0, 0, 0) 4]).set 0 (ended (fresh 1 (6, 0, 0, 0, 0) 4) 9 0 0 true [])) = 0 from rfl] at hd
  clear hMl hM hq hq2 hcell hrow
  rw [HMl.out]
  go_wp2_with fail
  refine hd.mono ?_
  rintro e w5 ⟨rfl, hw5⟩
  have hb5 := hb4.below hw5
  have hI := End_idle hb5 1 9 0 0 false none 0 0 t1 (fun i ⟨r, hr, hr1, hr2⟩ => by
    rw [HL3.out] at hr
    rcases i with _ | i
    · simp at hr; subst hr; cases hr2
    · simp at hr)
  go_wp2_with fail
  refine hI.mono ?_
  rintro e w6 ⟨rfl, A6, c6, L6, _, _, hu6⟩
  have h1s := hw1.size
  have h2s := hw2.size
  have hw6 : Below w.heap.size w w6 := (hw4'.trans (hw5.mono hw4'.size)).trans (hu6.to_below (by have := hw4'.size; have := hw5.size; omega) (fun k h => by rcases h with (h | h) | h <;> omega))
  go_wp2_with fail
  go_ret
  exact ⟨rfl, hw6⟩

end Go.Proofs.Ytlabnbfcjpggeaa
