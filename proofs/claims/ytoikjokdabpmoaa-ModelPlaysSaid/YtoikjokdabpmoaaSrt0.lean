/- A row of words that a sort turns: what the walks say of it; cmp.Less at uint64. -/
import Derived.Test.YtoikjokdabpmoaaProg
import Derived.Test.YtoikjokdabpmoaaMem
import Derived.WalkKit
import Derived.KernelRfl
import Derived.CellFam
import Derived.BigQuiet
import Derived.Deep.QuietTactic
import Derived.Deep.LoopGhost
import Derived.BigGuard
import Derived.BigCall
import Derived.Sort.AssemblyPlain
namespace Go.Proofs.Ytoikjokdabpmoaa
open Go.RowKit Go.Sort

def encU (x : Int) : Value := .int .u64 x

/-- In wr the row at g holds d where w held a row of its length; else new blocks alone have come. -/
def Rw (w : World) (g off : Nat) (d : Array Int) (wr : World) : Prop :=
  Upd (fun k => k = g) w wr ∧ ∃ c e fr, w.heap[g]? = some (.cells c e fr) ∧ wr.heap[g]? = some (.cells (putCells encU off d c) e fr)

theorem holds_block {w : World} {g off : Nat} {d : Array Int} (h : Holds encU w g off d) (hd : 0 < d.size) : ∃ c e fr, w.heap[g]? = some (.cells c e fr) := by
  have h0 := (h 0 hd).1
  unfold World.cell? at h0
  cases hk : w.heap[g]? with
  | none => simp [hk] at h0
  | some o => cases o <;> simp [hk] at h0; exact ⟨_, _, _, rfl⟩
theorem putCells_self {w : World} {g off : Nat} {d : Array Int} {c : Array Value} {e : TypeId} {fr : Nat × Nat} (h : Holds encU w g off d) (hb : w.heap[g]? = some (.cells c e fr)) : putCells encU off d c = c := by
  apply Array.ext (by simp [putCells])
  intro i h1 h2
  simp only [putCells, Array.getElem_mapIdx]
  split
  · rename_i hi
    have hc := (h (i - off) (by omega)).1
    rw [show off + (i - off) = i from by omega] at hc
    simp [World.cell?, hb] at hc
    rw [Array.getElem?_eq_getElem h2] at hc
    injection hc with hc
    exact hc.symm
  · rfl
theorem rw_start {w : World} {g off : Nat} {d : Array Int} (h : Holds encU w g off d) (hd : 0 < d.size) : Rw w g off d w := by
  obtain ⟨c, e, fr, hb⟩ := holds_block h hd
  exact ⟨Upd.refl _ _, c, e, fr, hb, by rw [putCells_self h hb]; exact hb⟩
theorem putCells_putCells (off : Nat) (d d' : Array Int) (c : Array Value) (h : d'.size = d.size) : putCells encU off d' (putCells encU off d c) = putCells encU off d' c := by
  apply Array.ext (by simp [putCells])
  intro i h1 h2
  simp only [putCells, Array.getElem_mapIdx]
  by_cases hi : off ≤ i ∧ i < off + d'.size
  · simp only [if_pos hi]
  · have hi2 : ¬ (off ≤ i ∧ i < off + d.size) := by omega
    simp only [if_neg hi, if_neg hi2]
theorem rw_trans {w wr w1 : World} {g off : Nat} {d d' : Array Int} (h : Rw w g off d wr) (h1 : Rw wr g off d' w1) (hs : d'.size = d.size) : Rw w g off d' w1 := by
  obtain ⟨hu, c, e, fr, hb, hb'⟩ := h
  obtain ⟨hu1, c1, e1, fr1, hb1, hb1'⟩ := h1
  rw [hb'] at hb1
  injection hb1 with hb1
  injection hb1 with q1 q2 q3
  subst q1 q2 q3
  exact ⟨hu.trans hu1 (fun _ _ h => h), c, e, fr, hb, by rw [hb1', putCells_putCells _ _ _ _ hs]⟩
theorem rw_drewN {w wr : World} {g off : Nat} {d : Array Int} (h : Rw w g off d wr) (q : Nat) : Rw w g off d (wr.drewN q) := ⟨h.1.drewN q, h.2⟩
theorem rw_drew {w wr : World} {g off : Nat} {d : Array Int} (h : Rw w g off d wr) : Rw w g off d wr.drew := ⟨h.1.drew, h.2⟩
theorem rw_lt {w wr : World} {g off : Nat} {d : Array Int} (h : Rw w g off d wr) : g < w.heap.size := by
  obtain ⟨_, c, e, fr, hb, _⟩ := h
  exact (Array.getElem?_eq_some_iff.1 hb).1
theorem rw_alloc {w wr : World} {g off : Nat} {d : Array Int} (h : Rw w g off d wr) (o : Obj) : Rw w g off d (wr.alloc o) := by
  refine ⟨h.1.alloc o, ?_⟩
  have hl := rw_lt h
  obtain ⟨hu, c, e, fr, hb, hb'⟩ := h
  exact ⟨c, e, fr, hb, (Below.heap_alloc wr o g (Nat.lt_of_lt_of_le hl hu.size)).trans hb'⟩
theorem rw_new {w wr : World} {g off : Nat} {d : Array Int} (h : Rw w g off d wr) {p : Addr} (hp : w.heap.size ≤ p.block) (v : Value) : Rw w g off d (wr.setCell p v) := by
  have hl := rw_lt h
  refine ⟨h.1.setCell (fun h => by omega) v, ?_⟩
  obtain ⟨hu, c, e, fr, hb, hb'⟩ := h
  exact ⟨c, e, fr, hb, (Below.heap_setCell wr p v g (by omega)).trans hb'⟩
theorem rw_upd {w wr w1 : World} {g off : Nat} {d : Array Int} (h : Rw w g off d wr) {F : Nat → Prop} (hu : Upd F wr w1) (hF : ∀ k, F k → w.heap.size ≤ k) : Rw w g off d w1 := by
  have hl := rw_lt h
  refine ⟨h.1.trans hu (fun k hk e => by have := hF k e; omega), ?_⟩
  obtain ⟨hu0, c, e, fr, hb, hb'⟩ := h
  exact ⟨c, e, fr, hb, hu.heap hb' (fun e => by have := hF g e; omega)⟩

theorem putCells_in (off : Nat) (d : Array Int) (c : Array Value) (k : Nat) (h : k < d.size) (hc : off + k < c.size) : (putCells encU off d c)[off + k]? = some (encU d[k]!) := by
  simp only [putCells, Array.getElem?_mapIdx, Array.getElem?_eq_getElem hc, Option.map_some]
  rw [if_pos (by omega), show off + k - off = k from by omega]
theorem putCells_out (off : Nat) (d : Array Int) (c : Array Value) (k : Nat) (h : ¬ (off ≤ k ∧ k < off + d.size)) : (putCells encU off d c)[k]? = c[k]? := by
  simp only [putCells, Array.getElem?_mapIdx]
  cases c[k]? with
  | none => rfl
  | some x => simp only [Option.map_some]; rw [if_neg h]
theorem swp_fst (d : Array Int) (i j : Nat) (hi : i < d.size) : (swp d i j)[i]! = d[j]! := by
  have h : i < (swp d i j).size := by rw [size_swp]; exact hi
  rw [getElem!_pos _ i h]
  simp only [swp]
  by_cases e : j = i
  · subst e; simp
  · simp [e, hi]
theorem swp_snd (d : Array Int) (i j : Nat) (hj : j < d.size) : (swp d i j)[j]! = d[i]! := by
  have h : j < (swp d i j).size := by rw [size_swp]; exact hj
  rw [getElem!_pos _ j h]
  simp [swp]
theorem putCells_swp (off : Nat) (d : Array Int) (c : Array Value) (i j : Nat) (hi : i < d.size) (hj : j < d.size) :
    ((putCells encU off d c).setIfInBounds (off + i) (encU d[j]!)).setIfInBounds (off + j) (encU d[i]!) = putCells encU off (swp d i j) c := by
  have hsz : (swp d i j).size = d.size := size_swp d i j
  have hcs : (putCells encU off d c).size = c.size := by simp [putCells]
  apply Array.ext_getElem?
  intro k
  rw [Array.getElem?_setIfInBounds, Array.getElem?_setIfInBounds, Array.size_setIfInBounds, hcs]
  by_cases hk : k < c.size
  · by_cases e1 : off + j = k
    · subst e1
      rw [if_pos rfl, if_pos hk, putCells_in off _ c j (by omega) hk, swp_snd d i j hj]
    · rw [if_neg e1]
      by_cases e2 : off + i = k
      · subst e2
        rw [if_pos rfl, if_pos hk, putCells_in off _ c i (by omega) hk, swp_fst d i j hi]
      · rw [if_neg e2]
        by_cases hin : off ≤ k ∧ k < off + d.size
        · obtain ⟨m, rfl⟩ : ∃ m, k = off + m := ⟨k - off, by omega⟩
          rw [putCells_in off _ c m (by omega) hk, putCells_in off _ c m (by omega) hk, swp_other d i j m (by omega) (by omega)]
        · rw [putCells_out off d c k hin, putCells_out off _ c k (by rw [hsz]; exact hin)]
  · have h1 : (putCells encU off (swp d i j) c)[k]? = none := Array.getElem?_eq_none (by simp [putCells]; omega)
    have h2 : (putCells encU off d c)[k]? = none := Array.getElem?_eq_none (by simp [putCells]; omega)
    rw [h1, h2]
    split <;> split <;> first | rfl | omega | skip
    all_goals first | rfl | (split <;> first | rfl | omega)
theorem set_same (w : World) (g o : Nat) (v : Value) {c : Array Value} {e : TypeId} {fr : Nat × Nat} (h : w.heap[g]? = some (.cells c e fr)) : (w.setCell ⟨g, o, none⟩ v).heap[g]? = some (.cells (c.setIfInBounds o v) e fr) := by
  rw [setCell_eq]
  simp [mapBlock, Array.getElem?_modify, h, onCells]
/-- An exchange of two places. -/
theorem rw_swap {w wr : World} {g off : Nat} {d : Array Int} (h : Rw w g off d wr) {i j : Nat} (hi : i < d.size) (hj : j < d.size) {x y : Int} (hx : x = d[j]!) (hy : y = d[i]!) :
    Rw w g off (swp d i j) ((wr.setCell ⟨g, off + i, none⟩ (.int .u64 x)).setCell ⟨g, off + j, none⟩ (.int .u64 y)) := by
  subst hx hy
  obtain ⟨hu, c, e, fr, hb, hb'⟩ := h
  refine ⟨(hu.setCell (p := ⟨g, off + i, none⟩) (fun _ => rfl) _).setCell (p := ⟨g, off + j, none⟩) (fun _ => rfl) _, c, e, fr, hb, ?_⟩
  have h1 := set_same wr g (off + i) (.int .u64 d[j]!) hb'
  have h2 := set_same _ g (off + j) (.int .u64 d[i]!) h1
  rw [h2]
  congr 2
  exact putCells_swp off d c i j hi hj

theorem rw_swapG {w wr : World} {g off n : Nat} {d : Array Int} {G : Nat → Int} (HG : Hid (∀ t, G t = d[t]!)) (Hs : Hid (d.size = n)) (h : Rw w g off d wr) (i j : Nat) (hi : i < n) (hj : j < n) {i' j' : Nat} (ei : i' = i) (ej : j' = j) :
    Rw w g off (swp d i j) ((wr.setCell ⟨g, off + i, none⟩ (.int .u64 (G j'))).setCell ⟨g, off + j, none⟩ (.int .u64 (G i'))) := by
  subst ei ej
  exact rw_swap h (by rw [Hs.out]; exact hi) (by rw [Hs.out]; exact hj) (HG.out _) (HG.out _)

theorem rw_holds {w wr : World} {g off : Nat} {d d0 : Array Int} (h : Rw w g off d wr) (h0 : Holds encU w g off d0) (hs : d.size = d0.size) : Holds encU wr g off d := fun j hj => by
  obtain ⟨hu, c, e, fr, hb, hb'⟩ := h
  have hk := h0 j (by omega)
  have hb2 : (putRow encU w g off d).heap[g]? = some (.cells (putCells encU off d c) e fr) := by simp [putRow, mapBlock, Array.getElem?_modify, hb, onCells]
  have hw : wr.heap[g]? = (putRow encU w g off d).heap[g]? := by rw [hb', hb2]
  refine ⟨(World.cell?_of_block (a := ⟨g, off + j, none⟩) hw).trans (cell?_putRow encU w g off d0 d h0 hs j hj), ?_⟩
  have := hk.2
  simp only [World.frozen?, hb, hb'] at this ⊢
  exact this
/-- The row's cells, for a walk. -/
theorem rw_fam {w wr : World} {g off n : Nat} {d d0 : Array Int} (h : Rw w g off d wr) (h0 : Holds encU w g off d0) (hs : d.size = n) (hs0 : d0.size = n) :
    ∃ G : Nat → Int, Hid (∀ t, G t = d[t]!) ∧ (∀ t, t < n → wr.cell? ⟨g, off + t, none⟩ = some (.int .u64 (G t))) ∧ (∀ t, t < n → wr.frozen? ⟨g, off + t, none⟩ = false) := by
  have hh := rw_holds h h0 (by omega)
  exact ⟨fun t => d[t]!, Lib.hid (fun _ => rfl), fun t ht => (hh t (by omega)).1, fun t ht => (hh t (by omega)).2⟩

theorem of_not_true {b : Bool} (h : (!b) = true) : b = false := by cases b <;> simp_all
theorem of_not_false {b : Bool} (h : (!b) = false) : b = true := by cases b <;> simp_all
theorem quiet_again {P : Program} {f : FuncId} {args : Array Value} {w : World} {a n : Nat} {v : Value} (h : Calls P f args (w.drewN (a + n)) fun e w' => e = .returned v ∧ w' = w.drewN (a + n)) :
    Calls P f args (w.drewN (a + n)) fun e w'' => e = .returned v ∧ ∃ m, w'' = w.drewN (a + m) :=
  h.mono fun _ _ ⟨he, hm⟩ => ⟨he, n, hm⟩
theorem isNaN_u (x : Int) (w : World) : Calls Try.prog 44 #[.int .u64 x] w fun e w' => e = .returned (.bool false) ∧ w = w' := by
  go_enter Try.func44, Try.ntmps44
  go_wp2
  go_ret
  exact ⟨by simp, rfl⟩
theorem less_u (x y : Int) (w : World) : Calls Try.prog 34 #[.int .u64 x, .int .u64 y] w fun e w' => e = .returned (.bool (ltInt x y)) ∧ w' = w := by
  go_enter Try.func34, Try.ntmps34
  go_wp2_with (go_at_call 44; refine (isNaN_u _ _).mono ?_; rintro e w' ⟨rfl, rfl⟩)
  go_ret
  exact ⟨rfl, rfl⟩
end Go.Proofs.Ytoikjokdabpmoaa
