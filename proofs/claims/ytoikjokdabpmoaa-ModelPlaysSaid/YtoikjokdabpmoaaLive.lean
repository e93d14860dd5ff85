/- (*Model).Live, walked. -/
import Derived.Test.YtoikjokdabpmoaaDo
namespace Go.Proofs.Ytoikjokdabpmoaa
open Go.RowKit Go.Maps

/-- The handles that are live and whose deadlines p admits, in rising order. -/
def Lists (T : List Tm) (p : Int → Bool) (ss : List Int) : Prop := ss.Pairwise (· < ·) ∧ ∀ h, h ∈ ss ↔ (liveB T h = true ∧ p (dlOf T h) = true)
def LiveO (T : List Tm) (w : World) (e : Ending) (w' : World) : Prop :=
  ∃ A c ss, e = .returned (.slice A ss.length c) ∧ Lists T (fun _ => true) ss ∧ ss.length ≤ 1000 ∧ w'.ownsRow w.heap.size 23 1 (.slice A ss.length c) ss.length (ss.map encW) ∧ Below w.heap.size w w'
/-- A list of handles is answered. -/
def Listed (T : List Tm) (p : Int → Bool) (w : World) (e : Ending) (w' : World) : Prop :=
  ∃ A c ss, e = .returned (.slice A ss.length c) ∧ Lists T p ss ∧ ss.length ≤ 1000 ∧ SR w' (fun k => w.heap.size ≤ k) A (ss.map encW) ∧ Below w.heap.size w w'
theorem LiveO.listed {T : List Tm} {w w' : World} {e : Ending} (h : LiveO T w e w') : Listed T (fun _ => true) w e w' := by
  obtain ⟨A, c, ss, he, hL, hn, hrow, hb⟩ := h
  exact ⟨A, c, ss, he, hL, hn, SR.of_own hrow _ (fun g hg => (hrow.lt g hg).1), hb⟩

theorem size_le {w : World} {b n : Nat} {D : DataW Unit} (h : MapAt w b n D) : Maps.size D ≤ n := by
  obtain ⟨es, clock, _, _, hs, rfl⟩ := h
  rw [size_eq, length_sorted]
  simpa using hs

theorem strict_of {ss : List Int} (hn : ss.Nodup) (hp : ss.Pairwise (fun a b => a ≤ b)) : ss.Pairwise (· < ·) :=
  (hp.and hn).imp fun ⟨h1, h2⟩ => by omega
theorem lists_of {D : DataW Unit} {T : List Tm} {ss : List Int} (hD : LiveD D T) (hk : KeysU D ss) (hp : ss.Pairwise (fun a b => a ≤ b)) : Lists T (fun _ => true) ss :=
  ⟨strict_of hk.1 hp, fun h => by rw [hk.2 h, hD.1 h]; simp⟩

theorem Live_nil (w : World) : Calls Try.prog 8 #[.pointer none] w fun e w' => e = .returned (.slice none 0 0) ∧ w' = w := by
  go_enter Try.func8, Try.ntmps8
  go_wp2_with fail
  go_ret
  exact ⟨rfl, rfl⟩

set_option maxHeartbeats 1000000 in
theorem Live_own {w : World} {F : Nat → Prop} {mp bl bw : Nat} {T : List Tm} (hM : ModAt w F mp bl bw T) (hn : T.length ≤ 1000) : Calls Try.prog 8 #[.pointer (some ⟨mp, 0, none⟩)] w (LiveO T w) := by
  obtain ⟨D, hm, hD⟩ := hM.live
  have y0 := hM.cell0
  have C := fun W hc hm => sorted_any (w := W) (Bm := w.heap.size) (b := bl) (nn := T.length) (D := D) hc hm (Nat.le_trans (size_le hm) hn)
  have hm1 : MapAt (w.alloc (.cells #[.map (some bl)] 42)) bl T.length D := hm.alloc _
  have hc1 : (w.alloc (.cells #[.map (some bl)] 42)).cell? ⟨w.heap.size, 0, none⟩ = some (.map (some bl)) := cell_of_row _ w.heap.size 0 _ 42 (0, 0) (heap_alloc_new w _)
  have C1 := C _ hc1 hm1
  have HD := Lib.hid hD
  clear hm hm1 hc1 C hD
  go_enter Try.func8, Try.ntmps8
  go_wp2_with (first | (go_at_call 17; refine (keys_fn _ _).mono ?_; rintro e w' ⟨rfl, rfl⟩) | (go_at_call 16; refine C1.mono ?_; rintro e w' ⟨A, c, ss, rfl, hk, hp, hl, hrow, hb⟩; have HK := Lib.hid (And.intro hk (And.intro hp hl)); clear hk hp hl))
  go_ret
  exact ⟨A, c, ss, rfl, lists_of HD.out HK.out.1 HK.out.2.1, HK.out.2.2, own_base hrow (fun g hg => by have := (hrow.lt g hg).1; simp at this; omega), ((Below.refl _ w).alloc (Nat.le_refl _) _).trans (hb.mono (by simp))⟩
theorem Live_any {w : World} {F : Nat → Prop} {mp bl bw : Nat} {T : List Tm} (hM : ModAt w F mp bl bw T) (hn : T.length ≤ 1000) : Calls Try.prog 8 #[.pointer (some ⟨mp, 0, none⟩)] w (Listed T (fun _ => true) w) :=
  (Live_own hM hn).mono fun _ _ h => h.listed
end Go.Proofs.Ytoikjokdabpmoaa
