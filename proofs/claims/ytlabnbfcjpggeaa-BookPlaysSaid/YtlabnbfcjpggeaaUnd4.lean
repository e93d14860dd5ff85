/- The book's Under, walked: the threads under way, in the order of their records. -/
import Derived.Test.YtlabnbfcjpggeaaUnd3
import Derived.Shelf.SlSortCmp.NoneTotal
namespace Go.Proofs.Ytlabnbfcjpggeaa
open Go.RowKit Go.Maps Go.Sort Go.Shelf Go.Lib

theorem intsV_map (l : List Int) : l.map encZ = intsV l := by
  unfold intsV
  induction l with
  | nil => rfl
  | cons x l ih => rw [List.map_cons, List.flatMap_cons, ih]; rfl
theorem intKeys_len {D : DataW Unit} (h : Tidy D) : (intKeys D).length = Maps.size D := by
  obtain ⟨es, rfl, _⟩ := h
  rw [Maps.size_eq]; simp [intKeys]

/-- The threads under way, in a slice of the call's own. -/
def ThrOut (w : World) (rs : List Rec) (e : Ending) (w' : World) : Prop :=
  ∃ A c, e = .returned (.slice A (thrs rs).length c) ∧ w'.ownsRow w.heap.size 3 1 (.slice A (thrs rs).length c) (thrs rs).length (intsV (thrs rs)) ∧ Below w.heap.size w w'

theorem sort27_none (A : Option Addr) (c : Nat) (f : Value) (w : World) : Calls Try.prog 32 #[.slice A 0 c, f] w fun e w' => e = .returned (.tuple #[]) ∧ w' = w :=
  AnyF.slices_SortFunc_none { sortL with } A c f w

set_option maxHeartbeats 2000000 in
theorem collect_any {w : World} {Bm bm n : Nat} {D : DataW Unit} (hc : w.cell? ⟨Bm, 0, none⟩ = some (.map (some bm))) (hown : w.ownsMap (H := Unit) Try.prog 3 (plainElem Try.prog 3) bm n D) (hs : Maps.size D ≤ 1000) :
    Calls Try.prog 31 #[.func (.func 33) #[] #[.pointer (some ⟨Bm, 0, none⟩)]] w fun e w' => ∃ (v : Value) (ss : List Int), e = .returned v ∧ ss.Perm (intKeys D) ∧ w'.ownsRow w.heap.size 3 1 v ss.length (ss.map encZ) ∧ (v = .slice none 0 0 ↔ ss = []) ∧ Below w.heap.size w w' := by
  refine (callsIn_wide (n := 6)).1 ?_
  have hseq : SeqGives Fence.wide 4 Try.prog 33 #[.pointer (some ⟨Bm, 0, none⟩)] encZ (fun ss => ss.Perm (intKeys D)) (Maps.size D) w :=
    AnyZI.keys_gives (ρ := keysL_ren) { keysL with } Fence.wide _ trivial rfl (by omega) Bm bm n D w (World.block_lt_of_cell? w _ hc) hc hown
  have cC := AnyZI.collect_in collL Fence.wide 6 trivial trivial rfl (by omega) 33 #[.pointer (some ⟨Bm, 0, none⟩)] trivial (enters_of Try.func33 (by kernel_rfl) rfl) _ _ (by unfold maxLen; omega) (by omega) w hseq
  exact cC

set_option maxHeartbeats 2000000 in
theorem sortedFunc_any {w : World} {bx bp Bm bm n : Nat} {D : DataW Unit} {l : List Rec} (hU : UndAt w bx bp bm n D) (hc : w.cell? ⟨Bm, 0, none⟩ = some (.map (some bm))) (hg : Good D l) (hwf : ∀ r ∈ l, wf64 r.thr) (hl : l.length ≤ 1000) :
    Calls Try.prog 25 #[.func (.func 33) #[] #[.pointer (some ⟨Bm, 0, none⟩)], .func (.func 27) #[] #[.pointer (some ⟨bx, 0, none⟩)]] w (ThrOut w l) := by
  have hs : Maps.size D ≤ 1000 := by
    have h := List.length_filter_le (fun r : Rec => !r.done) l
    rw [hg.2.2]
    unfold open_
    omega
  have hown := hU.map
  have htidy : Tidy D := hown.tidy law
  have hlt1 := World.block_lt_of_cell? w _ hU.box
  have hlt2 := World.block_lt_of_cell? w _ hU.fld
  have hlt3 := hown.lt
  simp only at hlt1 hlt2
  go_enter Try.func25, Try.ntmps25
  go_wp2_with fail
  refine (collect_any hc hown hs).mono ?_
  rintro e w1 ⟨v, ss, rfl, hp, hrow, hnil, hb⟩
  have hsl : ss.length ≤ 1000 := by rw [hp.length_eq, intKeys_len htidy]; exact hs
  rcases hrow.2 with ⟨rfl, hz⟩ | ⟨gb, cap, cur, rfl, hbase, hgb, r1, r2, r3, r4⟩
  · have hss : ss = [] := List.eq_nil_of_length_eq_zero hz
    subst hss
    have ht := thrs_of hown hg hwf hp List.Pairwise.nil
    have Hp := Lib.hid hp
    have Ht := Lib.hid ht
    clear hp ht hnil hz hrow
    go_wp2_with fail
    refine (sort27_none _ _ _ _).mono ?_
    rintro e w2 ⟨rfl, rfl⟩
    go_wp2_with fail
    go_ret
    exact ⟨none, 0, by rw [← Ht.out]; rfl, by rw [← Ht.out]; exact ⟨rfl, .inl ⟨rfl, rfl⟩⟩, hb⟩
  · have hgl : gb < w1.heap.size := (Array.getElem?_eq_some_iff.1 hgb).1
    have hH : Holds encZ w1 gb 0 ss.toArray := holds_of_block_i hgb (by simpa using r4)
    have hU1 : UndAt w1 bx bp bm n D := hU.upd (Upd.of_below (fun _ => False) hb) id id id
    have hswf : ∀ x ∈ ss, wf64 x := fun x hx => intKeys_wf hown Try.underlying3 x (hp.mem_iff.1 hx)
    have cS := sort27 (c := cap) ss hsl hswf hU1 (by omega) (by omega) (by omega) hH hgl
    have Hp := Lib.hid hp
    have Hgb := Lib.hid hgb
    have Hr3 := Lib.hid r3
    clear hp hnil hrow hgb r3 r4
    go_wp2_with fail
    refine cS.mono ?_
    rintro e w2 ⟨rfl, k, os, ts, htp, htw, rfl⟩
    have ht := thrs_of hown hg hwf (htp.trans Hp.out) htw
    have hlen := htp.length_eq
    have hrow2 := ownsRow_sorted_i (n := k) (os := os) (ts := ts) (ss := ss) hlen hbase Hgb.out r1 r2 Hr3.out
    have hb2 := hb.grown (grownBy_sorted_i (g := gb) (n := k) (os := os) ts.toArray) hb.size (fun j hj => by cases hj; exact hbase)
    have Ht := Lib.hid ht
    have Hlen := Lib.hid hlen
    clear ht hlen
    go_wp2_with fail
    go_ret
    refine ⟨some ⟨gb, 0, none⟩, cap, ?_, ?_, hb2⟩
    · rw [← Ht.out, Hlen.out]; rfl
    · rw [← Ht.out, Hlen.out, ← intsV_map]; exact hrow2

theorem Under_nil (w : World) : Calls Try.prog 16 #[.pointer none] w fun e w' => e = .returned (.slice none 0 0) ∧ Below w.heap.size w w' := by
  go_enter Try.func16, Try.ntmps16
  go_wp2
  go_ret
  exact ⟨rfl, (Below.refl _ _).alloc (Nat.le_refl _) _⟩

theorem keys_any (mb : Option Nat) (W : World) : Calls Try.prog 26 #[.map mb] W fun e w' => e = .returned (.func (.func 33) #[] #[.pointer (some ⟨W.heap.size, 0, none⟩)]) ∧ w' = W.alloc (.cells #[.map mb] 59) :=
  (callsIn_wide (n := 5)).1 (AnyZI.keys_in keysL Fence.wide 5 trivial rfl mb W)

set_option maxHeartbeats 2000000 in
theorem Under_any {w : World} {F : Nat → Prop} {bp bm : Nat} {Al : Option Addr} {cl : Nat} {L : List (RH × Rec)} (hb : BookAt w F bp bm Al cl L) (hn : L.length ≤ 1000) :
    Calls Try.prog 16 #[.pointer (some ⟨bp, 0, none⟩)] w (ThrOut w (L.map (·.2))) := by
  have hw1 : Below w.heap.size w (w.alloc (.cells #[.pointer (some ⟨bp, 0, none⟩)] 25)) := (Below.refl _ w).alloc (Nat.le_refl _) _
  have hb1 := hb.below hw1
  have hw2 : Below w.heap.size w ((w.alloc (.cells #[.pointer (some ⟨bp, 0, none⟩)] 25)).alloc (.cells #[.map (some bm)] 59)) := hw1.alloc (by simp) _
  have hb2 := hb.below hw2
  obtain ⟨D, hown, hg, hwf⟩ := hb2.map
  have hU : UndAt ((w.alloc (.cells #[.pointer (some ⟨bp, 0, none⟩)] 25)).alloc (.cells #[.map (some bm)] 59)) w.heap.size bp bm _ D :=
    ⟨cell_box1 w _ _ _ _ 0 rfl, hb2.cell1, hown⟩
  have hc : ((w.alloc (.cells #[.pointer (some ⟨bp, 0, none⟩)] 25)).alloc (.cells #[.map (some bm)] 59)).cell? ⟨w.heap.size + 1, 0, none⟩ = some (.map (some bm)) := cell_box2 w _ _ _ _ 0 rfl
  have cS := sortedFunc_any hU hc hg hwf (by rw [List.length_map]; exact hn)
  have c1 := hb1.cell1
  clear hg hb1 hb2 hc hU hown
  go_enter Try.func16, Try.ntmps16
  go_wp2_with fail
  refine (keys_any _ _).mono ?_
  rintro e w1 ⟨rfl, rfl⟩
  go_wp2_with fail
  refine cS.mono ?_
  rintro e w2 ⟨A, c, rfl, hrow, hbw⟩
  go_wp2_with fail
  go_ret
  exact ⟨A, c, rfl, own_base hrow (fun g hg => by have := (hrow.lt g hg).1; simp at this; omega), hw2.trans (hbw.mono (by simp; omega))⟩
end Go.Proofs.Ytlabnbfcjpggeaa
