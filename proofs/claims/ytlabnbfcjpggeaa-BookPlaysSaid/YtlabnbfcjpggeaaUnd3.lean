/- slices.SortFunc over threads by their places. -/
import Derived.Test.YtlabnbfcjpggeaaUnd2
import Derived.Test.YtlabnbfcjpggeaaLay
import Derived.Shelf.SlSortCmp.Whole1
namespace Go.Proofs.Ytlabnbfcjpggeaa
open Go.RowKit Go.Maps Go.Sort Go.Shelf Go.Lib

def clip (x : Int) : Int := if wf64 x then x else 0
theorem clip_wf (x : Int) : wf64 (clip x) := by
  unfold clip
  split
  · assumption
  · decide
theorem clip_of {x : Int} (h : wf64 x) : clip x = x := if_pos h
def encC (x : Int) : Value := .int .i64 (clip x)
theorem encC_of {x : Int} (h : wf64 x) : encC x = encZ x := by unfold encC; rw [clip_of h]
theorem encC_one : OneCell encC := fun _ => rfl
def cfC (D : DataW Unit) (x y : Int) : Int := cmpI (plc D (clip x)) (plc D (clip y))
theorem ltC_iff (D : DataW Unit) (x y : Int) : ltOf (cfC D) x y = true ↔ plc D (clip x) < plc D (clip y) := by
  unfold ltOf cfC cmpI
  rw [decide_eq_true_iff]
  split
  · omega
  · split <;> omega
theorem swoC (D : DataW Unit) : SWO (ltOf (cfC D)) where
  irrefl x := by rw [← Bool.not_eq_true, ltC_iff]; omega
  trans x y z h1 h2 := by rw [ltC_iff] at *; omega
  ntrans x y z h1 h2 := by rw [← Bool.not_eq_true, ltC_iff] at *; omega

theorem upd_sorted {w : World} {g : Nat} (enc : Int → Value) (m : Nat) (d : Array Int) (os : Array Obj) : Upd (fun k => k = g) w (grow (putRow enc (Sort.ahead w m) g 0 d) os) :=
  ⟨rfl, rfl, rfl, by simp, fun k hk hne => by
    rw [heap_grow_old _ _ (by simpa using hk)]
    have : g ≠ k := fun e => hne e.symm
    simp [putRow, mapBlock, Sort.ahead, Array.getElem?_modify, this]⟩
theorem UndAt.upd {w w' : World} {F : Nat → Prop} {bx bp bm n : Nat} {D : DataW Unit} (h : UndAt w bx bp bm n D) (hu : Upd F w w') (h1 : ¬ F bx) (h2 : ¬ F bp) (h3 : ¬ F bm) : UndAt w' bx bp bm n D :=
  ⟨(hu.cell (p := ⟨bx, 0, none⟩) (World.block_lt_of_cell? w _ h.box) h1).trans h.box, (hu.cell (p := ⟨bp, 1, none⟩) (World.block_lt_of_cell? w _ h.fld) h2).trans h.fld, map_upd hu h.map h3⟩

theorem putCells_C {d : Array Int} (hd : ∀ i, i < d.size → wf64 d[i]!) (cur : Array Value) : putCells encC 0 d cur = putCells encZ 0 d cur := by
  apply Array.ext (by simp [putCells])
  intro i h1 h2
  simp only [putCells, Array.getElem_mapIdx] at *
  by_cases h : 0 ≤ i ∧ i < 0 + d.size
  · rw [if_pos h, if_pos h, encC_of (hd _ (by omega))]
  · rw [if_neg h, if_neg h]

set_option maxHeartbeats 2000000 in
theorem sort27 {w : World} {g c bx bp bm n : Nat} {D : DataW Unit} (ss : List Int) (hn : ss.length ≤ 1000) (hwf : ∀ x ∈ ss, wf64 x) (hU : UndAt w bx bp bm n D) (h1 : bx ≠ g) (h2 : bp ≠ g) (h3 : bm ≠ g) (hH : Holds encZ w g 0 ss.toArray) (hg : g < w.heap.size) :
    Calls Try.prog 32 #[.slice (some ⟨g, 0, none⟩) ss.length c, .func (.func 27) #[] #[.pointer (some ⟨bx, 0, none⟩)]] w fun e w' => e = .returned (.tuple #[]) ∧ ∃ k os, ∃ ts : List Int, ts.Perm ss ∧ ts.Pairwise (fun a b => plc D a ≤ plc D b) ∧ w' = grow (putRow encZ (Sort.ahead w k) g 0 ts.toArray) os := by
  have eg : ∀ args w, (callFunc 27 args).run Try.prog w = .ok (.enter 27 args) w := enters_of Try.func27 (by kernel_rfl) rfl
  have hcmp : CmpLays1 Try.prog 27 #[.pointer (some ⟨bx, 0, none⟩)] encC (cfC D) g 0 ss.toArray.size w := fun m os dk _ x y =>
    (less_any (hU.upd (upd_sorted encC m dk os) h1 h2 h3) (clip x) (clip y) (clip_wf x) (clip_wf y)).mono fun e w' ⟨he, q, hq⟩ => ⟨he, q, #[], by rw [grow_empty]; exact hq⟩
  have hHC : Holds encC w g 0 ss.toArray := fun j hj => by
    have h := hH j hj
    have hm : ss.toArray[j]! ∈ ss := by
      rw [getElem!_pos _ j hj]
      simp
    rw [encC_of (hwf _ hm)]
    exact h
  have hc := Any.slices_SortFunc sortL encC encC_one (cfC D) (swoC D) 27 #[.pointer (some ⟨bx, 0, none⟩)] g 0 c ss.toArray w eg hcmp hHC hg (by simp; omega)
  have hc' : Calls Try.prog 32 #[.slice (some ⟨g, 0, none⟩) ss.length c, .func (.func 27) #[] #[.pointer (some ⟨bx, 0, none⟩)]] w _ := hc
  refine hc'.mono fun e w' ⟨he, d', k, os, hp, hs, hw⟩ => ⟨he, k, os, d'.toList, ?_, ?_, ?_⟩
  · have h := hp.2.2
    have hz := hp.1
    simp only [List.size_toArray] at h hz
    rw [Array.extract_eq_self_of_le (by omega), Array.extract_eq_self_of_le (by simp)] at h
    exact h
  all_goals
    have hperm : d'.toList.Perm ss := by
      have h := hp.2.2
      have hz := hp.1
      simp only [List.size_toArray] at h hz
      rw [Array.extract_eq_self_of_le (by omega), Array.extract_eq_self_of_le (by simp)] at h
      exact h
    have hdwf : ∀ i, i < d'.size → wf64 d'[i]! := fun i hi => hwf _ (hperm.mem_iff.1 (by rw [getElem!_pos d' i hi]; simp))
  · rw [List.pairwise_iff_getElem]
    intro i j hi hj hij
    have h := hs i j (Nat.zero_le _) hij (by have := hp.1; simp at this hj; simp; omega)
    rw [← Bool.not_eq_true, ltC_iff, clip_of (hdwf i (by simpa using hi)), clip_of (hdwf j (by simpa using hj)), getElem!_pos d' i (by simpa using hi), getElem!_pos d' j (by simpa using hj)] at h
    simp only [Array.getElem_toList]
    omega
  · have e : putCells encC 0 d' = putCells encZ 0 d' := funext fun cur => putCells_C hdwf cur
    rw [hw]
    unfold sortWorld putRow
    rw [e, Array.toArray_toList]
end Go.Proofs.Ytlabnbfcjpggeaa
