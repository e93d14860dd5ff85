/- book.New, the clones, and which record is a thread's own, walked. -/
import Derived.Test.YtlabnbfcjpggeaaData
import Derived.WalkSpells
import Derived.OwnWalk
import Derived.Lib.SliceRun
namespace Go.Proofs.Ytlabnbfcjpggeaa
open Go.RowKit Go.Maps

/-- A slice of the call's own that holds cells. -/
def OwnSl (w0 : World) (el size n : Nat) (cs : List Value) (e : Ending) (w' : World) : Prop :=
  ∃ A c, e = .returned (.slice A n c) ∧ w'.ownsRow w0.heap.size el size (.slice A n c) n cs ∧ Below w0.heap.size w0 w'

theorem info39 : (Try.prog.info? 39).map (fun i => (i.zero, i.size, i.bytes)) = some (some (.agg #[.int .u64 0, .int .i64 0, .int .u64 0]), 3, 24) := by kernel_rfl
theorem info34 : (Try.prog.info? 34).map (fun i => (i.zero, i.size, i.bytes)) = some (some (.agg #[.int .i64 0, .int .u64 0, .int .i64 0, .int .i64 0]), 4, 32) := by kernel_rfl
theorem info44 : (Try.prog.info? 44).map (fun i => (i.zero, i.size, i.bytes)) = some (some (.agg #[.int .i64 0, .int .i64 0, .int .i64 0, .int .u64 0, .int .u64 0, .int .i64 0, .int .i64 0, .int .i64 0, .bool false, .int .i64 0, .bool false, .int .u64 0, .slice none 0 0, .slice none 0 0]), 14, 144) := by kernel_rfl

theorem SR_none {w : World} {G : Nat → Prop} {cs : List Value} (h : SR w G none cs) : cs = [] := by
  rcases Nat.eq_zero_or_pos cs.length with h0 | h0
  · exact List.eq_nil_of_length_eq_zero h0
  · obtain ⟨b, off, e, _⟩ := h h0; cases e

set_option maxHeartbeats 1000000 in
theorem cloneDue_any (G : Nat → Prop) (A : Option Addr) (n c : Nat) (cs : List Value) (w : World) (hl : cs.length = n * 3) (h1 : ∀ u ∈ cs, u.oneCell' = true) (hn : n * 24 ≤ 140737488355328) (hr : SR w G A cs) :
    Calls Try.prog 20 #[.slice A n c] w (OwnSl w 39 3 n cs) := by
  obtain ⟨i0, hi0, hz0, hz1, hz2⟩ := info_parts info39
  rcases A with _ | ad
  · obtain rfl := SR_none hr
    have hn0 : n = 0 := by simp at hl; omega
    subst hn0
    have E := fun W => Lib.run_eql_slice_nil (P := Try.prog) W 23 39 none 0 c 0 0 Try.underlying23
    go_enter Try.func20, Try.ntmps20
    go_wp2_with fail
    go_ret
    exact ⟨none, 0, rfl, ⟨rfl, .inl ⟨rfl, rfl⟩⟩, Below.refl _ _⟩
  · have E := fun W => Lib.run_eql_slice_nil (P := Try.prog) W 23 39 (some ad) n c 0 0 Try.underlying23
    have hr' : SR (w.alloc (.cells #[] 39)) G (some ad) cs := hr.below ((Below.refl _ _).alloc (Nat.le_refl _) _)
    have hown0 := World.ownsRow_made (e := 39) (size := 3) w #[] 0 (Nat.le_refl _) (by simp [maxLen]) rfl
    have Hl := Lib.hid hl
    clear hl
    go_enter Try.func20, Try.ntmps20
    go_wp2_with (at_builtin; refine wpList_append_read rfl (.tmp 5) (.tmp 6) 23 rfl Try.underlying23 hi0 hz0 hz1 hz2 rfl (by decide) rfl hown0 rfl hr' Hl.out h1 (by simp only [maxLen]; omega) (by omega) (by simp) ?_; intro v1 w1 hown1 hg1 hat1; obtain ⟨A1, c1, rfl⟩ := own_form hown1)
    go_ret
    refine ⟨A1, c1, by simp, by simpa using hown1, ((Below.refl _ _).alloc (Nat.le_refl _) _).grown hg1 (by simp) (fun k hk => ?_)⟩
    injection hk with hk
    subst hk
    exact Nat.le_refl _

set_option maxHeartbeats 1000000 in
theorem cloneAct_any (G : Nat → Prop) (A : Option Addr) (n c : Nat) (cs : List Value) (w : World) (hl : cs.length = n * 4) (h1 : ∀ u ∈ cs, u.oneCell' = true) (hn : n * 32 ≤ 140737488355328) (hr : SR w G A cs) :
    Calls Try.prog 22 #[.slice A n c] w (OwnSl w 34 4 n cs) := by
  obtain ⟨i0, hi0, hz0, hz1, hz2⟩ := info_parts info34
  rcases A with _ | ad
  · obtain rfl := SR_none hr
    have hn0 : n = 0 := by simp at hl; omega
    subst hn0
    have E := fun W => Lib.run_eql_slice_nil (P := Try.prog) W 42 34 none 0 c 0 0 Try.underlying42
    go_enter Try.func22, Try.ntmps22
    go_wp2_with fail
    go_ret
    exact ⟨none, 0, rfl, ⟨rfl, .inl ⟨rfl, rfl⟩⟩, Below.refl _ _⟩
  · have E := fun W => Lib.run_eql_slice_nil (P := Try.prog) W 42 34 (some ad) n c 0 0 Try.underlying42
    have hr' : SR (w.alloc (.cells #[] 34)) G (some ad) cs := hr.below ((Below.refl _ _).alloc (Nat.le_refl _) _)
    have hown0 := World.ownsRow_made (e := 34) (size := 4) w #[] 0 (Nat.le_refl _) (by simp [maxLen]) rfl
    have Hl := Lib.hid hl
    clear hl
    go_enter Try.func22, Try.ntmps22
    go_wp2_with (at_builtin; refine wpList_append_read rfl (.tmp 5) (.tmp 6) 42 rfl Try.underlying42 hi0 hz0 hz1 hz2 rfl (by decide) rfl hown0 rfl hr' Hl.out h1 (by simp only [maxLen]; omega) (by omega) (by simp) ?_; intro v1 w1 hown1 hg1 hat1; obtain ⟨A1, c1, rfl⟩ := own_form hown1)
    go_ret
    refine ⟨A1, c1, by simp, by simpa using hown1, ((Below.refl _ _).alloc (Nat.le_refl _) _).grown hg1 (by simp) (fun k hk => ?_)⟩
    injection hk with hk
    subst hk
    exact Nat.le_refl _

set_option maxHeartbeats 1000000 in
theorem cloneRec_any (G : Nat → Prop) (A : Option Addr) (n c : Nat) (cs : List Value) (w : World) (hl : cs.length = n * 14) (h1 : ∀ u ∈ cs, u.oneCell' = true) (hn : n * 144 ≤ 140737488355328) (hr : SR w G A cs) :
    Calls Try.prog 21 #[.slice A n c] w (OwnSl w 44 14 n cs) := by
  obtain ⟨i0, hi0, hz0, hz1, hz2⟩ := info_parts info44
  rcases A with _ | ad
  · obtain rfl := SR_none hr
    have hn0 : n = 0 := by simp at hl; omega
    subst hn0
    have E := fun W => Lib.run_eql_slice_nil (P := Try.prog) W 40 44 none 0 c 0 0 Try.underlying40
    go_enter Try.func21, Try.ntmps21
    go_wp2_with fail
    go_ret
    exact ⟨none, 0, rfl, ⟨rfl, .inl ⟨rfl, rfl⟩⟩, Below.refl _ _⟩
  · have E := fun W => Lib.run_eql_slice_nil (P := Try.prog) W 40 44 (some ad) n c 0 0 Try.underlying40
    have hr' : SR (w.alloc (.cells #[] 44)) G (some ad) cs := hr.below ((Below.refl _ _).alloc (Nat.le_refl _) _)
    have hown0 := World.ownsRow_made (e := 44) (size := 14) w #[] 0 (Nat.le_refl _) (by simp [maxLen]) rfl
    have Hl := Lib.hid hl
    clear hl
    go_enter Try.func21, Try.ntmps21
    go_wp2_with (at_builtin; refine wpList_append_read rfl (.tmp 5) (.tmp 6) 40 rfl Try.underlying40 hi0 hz0 hz1 hz2 rfl (by decide) rfl hown0 rfl hr' Hl.out h1 (by simp only [maxLen]; omega) (by omega) (by simp) ?_; intro v1 w1 hown1 hg1 hat1; obtain ⟨A1, c1, rfl⟩ := own_form hown1)
    go_ret
    refine ⟨A1, c1, by simp, by simpa using hown1, ((Below.refl _ _).alloc (Nat.le_refl _) _).grown hg1 (by simp) (fun k hk => ?_)⟩
    injection hk with hk
    subst hk
    exact Nat.le_refl _

/-- A new book. -/
def NewBook (w0 : World) (e : Ending) (w' : World) : Prop :=
  ∃ bp bm, e = .returned (.pointer (some ⟨bp, 0, none⟩)) ∧ BookAt w' (fun k => w0.heap.size ≤ k) bp bm none 0 [] ∧ Below w0.heap.size w0 w'

set_option maxHeartbeats 1000000 in
theorem New_any (w : World) : Calls Try.prog 6 #[] w (NewBook w) := by
  have hmm := @run_makeMap Try.prog
  go_enter Try.func6, Try.ntmps6
  go_wp2_with fail
  go_ret
  refine ⟨w.heap.size + 1, w.heap.size, rfl, ?_, ((Below.refl _ _).alloc (Nat.le_refl _) _).alloc (by simp) _⟩
  refine { fields := ?_, row := ⟨rfl, .inl ⟨rfl, rfl⟩⟩, map := ⟨.map [], ((World.ownsMap_made w Try.prog 3 (plainElem Try.prog 3)).alloc _), ⟨fun t _ => ⟨(fun h => (by cases h)), (fun ⟨i, r, hr, _⟩ => (by simp at hr))⟩, (fun t i _ ⟨r, hr, _⟩ => (by simp at hr)), rfl⟩, (fun r hr => (by cases hr))⟩, batch := fun p hp => (by cases hp), acts := fun p hp => (by cases hp), apart := fun i j p q hp => (by simp at hp), fb := Nat.le_succ _, fm := Nat.le_refl _, fr := fun g h => (by cases h), fs := fun p hp => (by cases hp) }
  have h := heap_alloc_new (w.alloc (.map #[] 0)) (.cells #[.slice none 0 0, .map (some w.heap.size)] 61)
  simpa using h

end Go.Proofs.Ytlabnbfcjpggeaa
