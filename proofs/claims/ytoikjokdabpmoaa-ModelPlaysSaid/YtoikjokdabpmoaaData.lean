/- A model of the timers, as it lies in memory, and what it holds: a plain list of timers. -/
import Derived.Test.YtoikjokdabpmoaaItr2
import Derived.StillTailTactics
import Derived.Deep.RegionLaw
import Derived.Maps.OwnSet
namespace Go.Proofs.Ytoikjokdabpmoaa
open Go.RowKit Go.Maps

/-- A timer: its handle, its deadline, whether it is live. -/
structure Tm where
  h : Int
  dl : Int
  live : Bool
def liveB (T : List Tm) (h : Int) : Bool := T.any fun t => t.h == h && t.live
def wereB (T : List Tm) (h : Int) : Bool := T.any fun t => t.h == h
def dlOf (T : List Tm) (h : Int) : Int := ((T.find? fun t => t.h == h).map (·.dl)).getD 0
def legalB (T : List Tm) (k h dl now : Int) : Bool :=
  if k = 1 then !wereB T h else if k = 2 then liveB T h && dlOf T h == dl && decide (dlOf T h ≤ now) else if k = 3 then liveB T h else if k = 4 then !liveB T h else decide (k = 5)
def kill (T : List Tm) (h : Int) : List Tm := T.map fun t => if t.h = h then { t with live := false } else t
def doT (T : List Tm) (k h dl now : Int) : List Tm :=
  if legalB T k h dl now = true then (if k = 1 then T ++ [⟨h, dl, true⟩] else if k = 2 ∨ k = 3 then kill T h else T) else T

def LiveD (D : DataW Unit) (T : List Tm) : Prop := (∀ h, Maps.has D (.int .u64 h) = liveB T h) ∧ ∀ h, liveB T h = true → D.atKey (.int .u64 h) (.lit (.int .i64 0)) = .lit (.int .i64 (dlOf T h))
def WereD (D : DataW Unit) (T : List Tm) : Prop := ∀ h, Maps.has D (.int .u64 h) = wereB T h

/-- A model: its two maps; its blocks are of F. -/
structure ModAt (w : World) (F : Nat → Prop) (mp bl bw : Nat) (T : List Tm) : Prop where
  fields : w.heap[mp]? = some (.cells #[.map (some bl), .map (some bw)] 44 (0, 0))
  live : ∃ D, MapAt w bl T.length D ∧ LiveD D T
  were : ∃ D, MapAt w bw T.length D ∧ WereD D T
  ne : bl ≠ bw
  dist : T.Pairwise (fun a b => a.h ≠ b.h)
  wf : ∀ t ∈ T, wfU t.h
  fm : F mp
  fl : F bl
  fw : F bw
theorem map_upd {F : Nat → Prop} {w w' : World} (hu : Upd F w w') {bm n : Nat} {D : DataW Unit} (h : MapAt w bm n D) (hF : ¬ F bm) : MapAt w' bm n D := by
  obtain ⟨es, clock, hb, h2⟩ := h
  exact ⟨es, clock, hu.heap hb hF, h2⟩
theorem ModAt.ltp {w : World} {F : Nat → Prop} {mp bl bw : Nat} {T : List Tm} (h : ModAt w F mp bl bw T) : mp < w.heap.size := (Array.getElem?_eq_some_iff.1 h.fields).1
theorem ModAt.ltl {w : World} {F : Nat → Prop} {mp bl bw : Nat} {T : List Tm} (h : ModAt w F mp bl bw T) : bl < w.heap.size := by obtain ⟨D, hm, _⟩ := h.live; exact hm.lt
theorem ModAt.ltw {w : World} {F : Nat → Prop} {mp bl bw : Nat} {T : List Tm} (h : ModAt w F mp bl bw T) : bw < w.heap.size := by obtain ⟨D, hm, _⟩ := h.were; exact hm.lt
theorem ModAt.upd {w w' : World} {F F' : Nat → Prop} {mp bl bw : Nat} {T : List Tm} (h : ModAt w F mp bl bw T) (hu : Upd F' w w') (hd : ∀ k, k < w.heap.size → F k → ¬ F' k) : ModAt w' F mp bl bw T := by
  obtain ⟨D, hm, hl⟩ := h.live
  obtain ⟨E, hm2, hl2⟩ := h.were
  exact { h with fields := hu.heap h.fields (hd _ h.ltp h.fm), live := ⟨D, map_upd hu hm (hd _ hm.lt h.fl), hl⟩, were := ⟨E, map_upd hu hm2 (hd _ hm2.lt h.fw), hl2⟩ }
theorem ModAt.below {w w' : World} {F : Nat → Prop} {mp bl bw : Nat} {T : List Tm} (h : ModAt w F mp bl bw T) (hb : Below w.heap.size w w') : ModAt w' F mp bl bw T := h.upd (Upd.of_below (fun _ => False) hb) (fun _ _ _ => id)
theorem ModAt.mono {w : World} {F F' : Nat → Prop} {mp bl bw : Nat} {T : List Tm} (h : ModAt w F mp bl bw T) (hF : ∀ k, k < w.heap.size → F k → F' k) : ModAt w F' mp bl bw T := { h with fm := hF _ h.ltp h.fm, fl := hF _ h.ltl h.fl, fw := hF _ h.ltw h.fw }
theorem ModAt.cell0 {w : World} {F : Nat → Prop} {mp bl bw : Nat} {T : List Tm} (h : ModAt w F mp bl bw T) : w.cell? ⟨mp, 0, none⟩ = some (.map (some bl)) := cell_of_row w mp 0 _ 44 (0, 0) h.fields
theorem ModAt.cell1 {w : World} {F : Nat → Prop} {mp bl bw : Nat} {T : List Tm} (h : ModAt w F mp bl bw T) : w.cell? ⟨mp, 1, none⟩ = some (.map (some bw)) := cell_of_row w mp 1 _ 44 (0, 0) h.fields

theorem zeroE (w : World) : (zeroValue 46).run Try.prog w = .ok (.agg #[.int .i64 0]) w := by kernel_rfl
theorem everR_inv {v : Value} {d : DataW Unit} {ps : List MemPlace} (h : everR v = some (d, ps)) : ∃ c : Int, v = .agg #[.int .i64 c] ∧ d = .lit (.int .i64 c) := by
  unfold everR at h
  split at h
  · rename_i xs
    split at h
    · rename_i a hx
      simp at h
      refine ⟨a, ?_, h.1.symm⟩
      cases xs
      simp at hx
      rw [hx]
    · cases h
  · cases h
theorem everR_mk (c : Int) : everR (.agg #[.int .i64 c]) = some (.lit (.int .i64 c), []) := rfl

/-- What 'm.live[h]' yields. -/
def xOf (T : List Tm) (h : Int) : Int := if liveB T h = true then dlOf T h else 0
theorem ModAt.look_live {w : World} {F : Nat → Prop} {mp bl bw : Nat} {T : List Tm} (hM : ModAt w F mp bl bw T) (h : Int) (hh : wfU h) : (Instr.lookup 42 (.map (some bl)) (.int .u64 h) true).run Try.prog w = .ok (.tuple #[.agg #[.int .i64 (xOf T h)], .bool (liveB T h)]) w := by
  obtain ⟨D, hm, hl1, hl2⟩ := hM.live
  obtain ⟨v, ps, hrun, hR⟩ := hm.look_ok lawU Try.underlying42 (zeroE w) (everR_mk 0) (keyOf_int_mk (P := Try.prog) Try.underlying23 hh)
  obtain ⟨c, rfl, hd⟩ := everR_inv hR
  have hc : c = xOf T h := by
    unfold xOf
    split
    · rename_i hlv
      rw [hl2 h hlv] at hd
      injection hd with hd
      injection hd with _ hd
      exact hd.symm
    · rename_i hlv
      have hn : Maps.has D (.int .u64 h) = false := by rw [hl1 h]; simpa using hlv
      rw [atKey_of_not_has hn] at hd
      injection hd with hd
      injection hd with _ hd
      exact hd.symm
  rw [← hc, ← hl1 h]
  exact hrun
theorem ModAt.look_plain {w : World} {F : Nat → Prop} {mp bl bw : Nat} {T : List Tm} (hM : ModAt w F mp bl bw T) (h : Int) (hh : wfU h) : (Instr.lookup 42 (.map (some bl)) (.int .u64 h) false).run Try.prog w = .ok (.agg #[.int .i64 (xOf T h)]) w := by
  obtain ⟨D, hm, hl1, hl2⟩ := hM.live
  obtain ⟨v, ps, hrun, hR⟩ := hm.lookup lawU Try.underlying42 (zeroE w) (everR_mk 0) (keyOf_int_mk (P := Try.prog) Try.underlying23 hh)
  obtain ⟨c, rfl, hd⟩ := everR_inv hR
  have hc : c = xOf T h := by
    unfold xOf
    split
    · rename_i hlv
      rw [hl2 h hlv] at hd
      injection hd with hd
      injection hd with _ hd
      exact hd.symm
    · rename_i hlv
      have hn : Maps.has D (.int .u64 h) = false := by rw [hl1 h]; simpa using hlv
      rw [atKey_of_not_has hn] at hd
      injection hd with hd
      injection hd with _ hd
      exact hd.symm
  rw [← hc]
  exact hrun
theorem ModAt.look_were {w : World} {F : Nat → Prop} {mp bl bw : Nat} {T : List Tm} (hM : ModAt w F mp bl bw T) (h : Int) (hh : wfU h) : ∃ c : Int, ∀ W, Below w.heap.size w W → (Instr.lookup 42 (.map (some bw)) (.int .u64 h) true).run Try.prog W = .ok (.tuple #[.agg #[.int .i64 c], .bool (wereB T h)]) W := by
  obtain ⟨D, hm, hl1⟩ := hM.were
  obtain ⟨v, ps, _, hR⟩ := hm.look_ok lawU Try.underlying42 (zeroE w) (everR_mk 0) (keyOf_int_mk (P := Try.prog) Try.underlying23 hh)
  obtain ⟨c, rfl, hd⟩ := everR_inv hR
  refine ⟨c, fun W hW => ?_⟩
  have hm2 : MapAt W bw T.length D := map_upd (Upd.of_below (fun _ => False) hW) hm id
  obtain ⟨v2, ps2, hrun, hR2⟩ := hm2.look_ok lawU Try.underlying42 (zeroE W) (everR_mk 0) (keyOf_int_mk (P := Try.prog) Try.underlying23 hh)
  obtain ⟨c2, rfl, hd2⟩ := everR_inv hR2
  rw [hd] at hd2
  injection hd2 with hd2
  injection hd2 with _ hd2
  rw [hd2, ← hl1 h]
  exact hrun

/-- A new model. -/
def NewMod (w0 : World) (e : Ending) (w' : World) : Prop :=
  ∃ mp bl bw, e = .returned (.pointer (some ⟨mp, 0, none⟩)) ∧ ModAt w' (fun k => w0.heap.size ≤ k) mp bl bw [] ∧ Below w0.heap.size w0 w'
set_option maxHeartbeats 1000000 in
theorem New_any (w : World) : Calls Try.prog 6 #[] w (NewMod w) := by
  have hmm := @run_makeMap Try.prog
  go_enter Try.func6, Try.ntmps6
  go_wp2_with fail
  go_ret
  have hl := World.ownsMap_made (H := Unit) w Try.prog 23 everR
  have hw := World.ownsMap_made (H := Unit) (w.alloc (.map #[] 0)) Try.prog 23 everR
  refine ⟨w.heap.size + 1 + 1, w.heap.size, w.heap.size + 1, by simp, ?_, (((Below.refl _ _).alloc (Nat.le_refl _) _).alloc (by simp) _).alloc (by simp; omega) _⟩
  refine { fields := ?_, live := ⟨.map [], (hl.alloc _).alloc _, fun _ => rfl, fun h hh => by simp [liveB] at hh⟩, were := ⟨.map [], by simpa using hw.alloc _, fun _ => rfl⟩, ne := by omega, dist := List.Pairwise.nil, wf := fun t ht => (by cases ht), fm := by omega, fl := Nat.le_refl _, fw := by omega }
  have h := heap_alloc_new ((w.alloc (.map #[] 0)).alloc (.map #[] 0)) (.cells #[.map (some w.heap.size), .map (some (w.heap.size + 1))] 44)
  simpa using h
end Go.Proofs.Ytoikjokdabpmoaa
