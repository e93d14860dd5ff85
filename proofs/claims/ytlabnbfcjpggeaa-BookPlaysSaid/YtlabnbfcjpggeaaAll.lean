/- (*Book).All and (*Book).Done, walked. -/
import Derived.Test.YtlabnbfcjpggeaaEnd
import Derived.LoopTactic
namespace Go.Proofs.Ytlabnbfcjpggeaa
open Go.RowKit Go.Maps

/-- Records in memory of the call's own, each with lists of its own. -/
structure RecsOwn (w : World) (B : Nat) (A : Option Addr) (c : Nat) (M : List (RH × Rec)) : Prop where
  row : w.ownsRow B 44 14 (.slice A M.length c) M.length (recsV M)
  batch : ∀ p ∈ M, w.ownsRow B 39 3 (bSl p) p.2.batch.length (duesV p.2.batch)
  acts : ∀ p ∈ M, w.ownsRow B 34 4 (aSl p) p.2.acts.length (actsV p.2.acts)

def AllOut (w : World) (rs : List Rec) (e : Ending) (w' : World) : Prop :=
  ∃ A c M, M.map (·.2) = rs ∧ e = .returned (.slice A M.length c) ∧ RecsOwn w' w.heap.size A c M ∧ Below w.heap.size w w'

theorem All_nil (w : World) : Calls Try.prog 10 #[.pointer none] w fun e w' => e = .returned (.slice none 0 0) ∧ w = w' := by
  go_enter Try.func10, Try.ntmps10
  go_wp2
  go_ret
  exact ⟨rfl, rfl⟩

/-- What the loop has done behind k rounds. -/
structure Part (w wr : World) (A : Option Addr) (c : Nat) (L M : List (RH × Rec)) (k : Nat) : Prop where
  len : M.length = L.length
  same : M.map (·.2) = L.map (·.2)
  row : wr.ownsRow w.heap.size 44 14 (.slice A M.length c) M.length (recsV M)
  fst : ∀ (j : Nat) (p : RH × Rec), j < k → M[j]? = some p → wr.ownsRow w.heap.size 39 3 (bSl p) p.2.batch.length (duesV p.2.batch) ∧ wr.ownsRow w.heap.size 34 4 (aSl p) p.2.acts.length (actsV p.2.acts)
  rest : ∀ (j : Nat), k ≤ j → M[j]? = L[j]?
  bel : Below w.heap.size w wr

theorem part_next {w wr w2 W3 w4 : World} {g c1 k : Nat} {L M : List (RH × Rec)} {p : RH × Rec} {A2 A4 : Option Addr} {c2 c4 : Nat} (hp : Part w wr (some ⟨g, 0, none⟩) c1 L M k) (hMk : M[k]? = some p)
    (hb2 : Below wr.heap.size wr w2) (hown2 : w2.ownsRow wr.heap.size 34 4 (.slice A2 p.2.acts.length c2) p.2.acts.length (actsV p.2.acts)) (hW3 : W3 = w2.setCell ⟨g, k * 14 + 13, none⟩ (.slice A2 p.2.acts.length c2))
    (hb4 : Below W3.heap.size W3 w4) (hown4 : w4.ownsRow W3.heap.size 39 3 (.slice A4 p.2.batch.length c4) p.2.batch.length (duesV p.2.batch)) :
    Part w (w4.setCell ⟨g, k * 14 + 9 + 3, none⟩ (.slice A4 p.2.batch.length c4)) (some ⟨g, 0, none⟩) c1 L (M.set k (⟨A4, c4, A2, c2⟩, p.2)) (k + 1) := by
  have hgB : w.heap.size ≤ g := (hp.row.lt g rfl).1
  have hrs := hp.bel.size
  have hp2 := own_below hb2 hp.row
  have hu3 : Upd (fun x => x = g) w2 W3 := by rw [hW3]; exact (Upd.refl (fun x => x = g) w2).setCell (p := ⟨g, k * 14 + 13, none⟩) (fun _ => rfl) _
  obtain ⟨e3, m3⟩ := recs_set (({ p.1 with Aa := A2, ca := c2 }, p.2) : RH × Rec) hMk 13 (.slice A2 p.2.acts.length c2) (by decide) rfl
  obtain ⟨e5, _⟩ := recs_set ((⟨A4, c4, A2, c2⟩, p.2) : RH × Rec) m3 12 (.slice A4 p.2.batch.length c4) (by decide) rfl
  rw [List.set_set] at e5
  have hrow3 : W3.ownsRow w.heap.size 44 14 (.slice (some ⟨g, 0, none⟩) M.length c1) M.length (recsV (M.set k ({ p.1 with Aa := A2, ca := c2 }, p.2))) := by rw [hW3, e3]; exact (hp2.stored (k * 14 + 13) _).1
  have hrow4 := own_below hb4 hrow3
  have hu5 : Upd (fun x => x = g) w4 (w4.setCell ⟨g, k * 14 + 9 + 3, none⟩ (.slice A4 p.2.batch.length c4)) := (Upd.refl (fun x => x = g) w4).setCell (p := ⟨g, k * 14 + 9 + 3, none⟩) (fun _ => rfl) _
  have hw2s := hb2.size
  have hw3s := hu3.size
  have keep : ∀ {b e size n : Nat} {v : Value} {xs : List Value}, e ≠ 44 → wr.ownsRow b e size v n xs → (w4.setCell ⟨g, k * 14 + 9 + 3, none⟩ (.slice A4 p.2.batch.length c4)).ownsRow b e size v n xs := by
    intro b e size n v xs h44 h
    have h2 := own_below hb2 h
    have h3 := own_upd hu3 h2 (fun x hx e' => by subst e'; exact own_ne hp2 h2 h44.symm rfl hx)
    have h4 := own_below hb4 h3
    exact own_upd hu5 h4 (fun x hx e' => by subst e'; exact own_ne hrow4 h4 h44.symm rfl hx)
  have hacts := own_upd hu5 (own_below hb4 (own_upd hu3 hown2 (fun x hx e' => by subst e'; exact own_ne hp2 hown2 (by decide) rfl hx))) (fun x hx e' => by
    subst e'
    exact own_ne hrow4 (own_below hb4 (own_upd hu3 hown2 (fun y hy e'' => by subst e''; exact own_ne hp2 hown2 (by decide) rfl hy))) (by decide) rfl hx)
  have hbatch := own_upd hu5 hown4 (fun x hx e' => by subst e'; exact own_ne hrow4 hown4 (by decide) rfl hx)
  refine { len := by rw [List.length_set]; exact hp.len, same := ?_, row := ?_, fst := ?_, rest := ?_, bel := ?_ }
  · rw [List.map_set, ← hp.same]
    apply List.ext_getElem?
    intro j
    rw [List.getElem?_set]
    by_cases e : k = j
    · subst e
      rw [if_pos rfl, List.getElem?_map, hMk]
      simp
      exact (List.getElem?_eq_some_iff.1 hMk).1
    · rw [if_neg e]
  · rw [List.length_set, e5]
    exact (hrow4.stored (k * 14 + 12) (.slice A4 p.2.batch.length c4)).1
  · intro j q hj hq
    rcases set_get hq with ⟨rfl, rfl⟩ | ⟨hjk, hq⟩
    · exact ⟨own_base hbatch (fun x hx => Nat.le_trans (by omega) (hown4.lt x hx).1), own_base hacts (fun x hx => Nat.le_trans hrs (hown2.lt x hx).1)⟩
    · obtain ⟨h1, h2⟩ := hp.fst j q (by omega) hq
      exact ⟨keep (by decide) h1, keep (by decide) h2⟩
  · intro j hj
    rw [List.getElem?_set_ne (by omega)]
    exact hp.rest j (by omega)
  · have h3 : Below w.heap.size w W3 := by rw [hW3]; exact (hp.bel.trans (hb2.mono hrs)).setCell (p := ⟨g, k * 14 + 13, none⟩) hgB _
    exact (h3.trans (hb4.mono h3.size)).setCell (p := ⟨g, k * 14 + 9 + 3, none⟩) hgB _

set_option maxRecDepth 100000 in
set_option maxHeartbeats 2000000 in
theorem All_any {w : World} {F : Nat → Prop} {bp bm : Nat} {Al : Option Addr} {cl : Nat} {L : List (RH × Rec)} (hb : BookAt w F bp bm Al cl L) (hn : L.length ≤ 1000) (ha : ∀ p ∈ L, p.2.acts.length ≤ 1000) (hd : ∀ p ∈ L, p.2.batch.length * 24 ≤ 140737488355328) :
    Calls Try.prog 10 #[.pointer (some ⟨bp, 0, none⟩)] w (AllOut w (L.map (·.2))) := by
  have hc0 := hb.cell0
  have K := fun (c : Nat) => cloneRec_any (fun _ => True) Al L.length c (recsV L) w (recsV_len L) (recsV_one L) (by omega) (SR.of_own hb.row _ (fun _ _ => trivial))
  go_enter Try.func10, Try.ntmps10
  go_wp2_with fail
  refine (K _).mono ?_
  rintro e w1 ⟨A1, c1, rfl, hown1, hb1⟩
  go_wp2_with fail
  go_loopw [4, 14] (fun _ v14 wr => ∃ (k : Nat) (M : List (RH × Rec)), k ≤ L.length ∧ v14 = .int .i64 k ∧ Part w wr A1 c1 L M k) (fun _ v14 _ => L.length - (intOf v14).toNat)
  case atStart => exact ⟨0, L, Nat.zero_le _, rfl, { len := rfl, same := rfl, row := hown1, fst := fun j p h => absurd h (Nat.not_lt_zero _), rest := fun _ _ => rfl, bel := hb1 }⟩
  case round =>
    obtain ⟨k, M, hkl, rfl, hp⟩ := hrel
    by_cases hlt : k < L.length
    · have hML := hp.len
      have hMk := hp.rest k (Nat.le_refl _)
      have hbr := hb.below hp.bel
      have hprow := hp.row
      obtain ⟨g, rfl⟩ := own_pos hprow (by omega)
      obtain ⟨p, hpk⟩ : ∃ p, L[k]? = some p := ⟨_, List.getElem?_eq_getElem hlt⟩
      have hpm : p ∈ L := List.mem_iff_getElem?.2 ⟨k, hpk⟩
      rw [hpk] at hMk
      have hc13 : wr.cell? ⟨g, k * 14 + 13, none⟩ = some (.slice p.1.Aa p.2.acts.length p.1.ca) := (hprow.cellAt (k * 14 + 13) (by omega)).trans (flat_at recV 14 recV_len M k p hMk 13 (by decide))
      have hfz := fun o => hprow.frozenAt o
      have KA := fun (c : Nat) (W : World) (hW : Below w.heap.size w W) => cloneAct_any (fun _ => True) p.1.Aa p.2.acts.length c (actsV p.2.acts) W (actsV_len _) (actsV_one _) (by have := ha p hpm; omega) (SR.of_own ((hb.below hW).acts p hpm) _ (fun _ _ => trivial))
      have KB := fun (c : Nat) (W : World) (hW : Below w.heap.size w W) => cloneDue_any (fun _ => True) p.1.Ab p.2.batch.length c (duesV p.2.batch) W (duesV_len _) (duesV_one _) (hd p hpm) (SR.of_own ((hb.below hW).batch p hpm) _ (fun _ _ => trivial))
      have hk0 : (0 : Int) ≤ (k : Int) := Int.natCast_nonneg _
      have hk1 : (k : Int) < (L.length : Int) := by omega
      have HML := Lib.hid hML
      clear hML
      go_wp2_with fail
      refine (KA _ wr hp.bel).mono ?_
      rintro e w2 ⟨A2, c2, rfl, hown2, hb2⟩
      have hgB : w.heap.size ≤ g := (hprow.lt g rfl).1
      have hrs := hp.bel.size
      have hp2 := own_below hb2 hprow
      have hv13 : w2.cell? ⟨g, k * 14 + 13, none⟩ = some (.slice p.1.Aa p.2.acts.length p.1.ca) := (hp2.cellAt (k * 14 + 13) (by have := HML.out; omega)).trans (flat_at recV 14 recV_len M k p hMk 13 (by decide))
      have hvf := fun o => hp2.frozenAt o
      obtain ⟨W3, hW3⟩ : ∃ W3, W3 = w2.setCell ⟨g, k * 14 + 13, none⟩ (.slice A2 p.2.acts.length c2) := ⟨_, rfl⟩
      have hu3 : Upd (fun x => x = g) w2 W3 := by rw [hW3]; exact (Upd.refl (fun x => x = g) w2).setCell (p := ⟨g, k * 14 + 13, none⟩) (fun _ => rfl) _
      obtain ⟨e3, m3⟩ := recs_set (({ p.1 with Aa := A2, ca := c2 }, p.2) : RH × Rec) hMk 13 (.slice A2 p.2.acts.length c2) (by decide) rfl
      have hrow3 : W3.ownsRow w.heap.size 44 14 (.slice (some ⟨g, 0, none⟩) M.length c1) M.length (recsV (M.set k ({ p.1 with Aa := A2, ca := c2 }, p.2))) := by rw [hW3, e3]; exact (hp2.stored (k * 14 + 13) _).1
      have hbw3 : Below w.heap.size w W3 := by rw [hW3]; exact (hp.bel.trans (hb2.mono hrs)).setCell (p := ⟨g, k * 14 + 13, none⟩) hgB _
      have hq12' : w2.cell? ⟨g, k * 14 + 9 + 3, none⟩ = some (.slice p.1.Ab p.2.batch.length p.1.cb) := (hp2.cellAt (k * 14 + 9 + 3) (by have := HML.out; omega)).trans (flat_at recV 14 recV_len M k p hMk 12 (by decide))
      have hq12 : W3.cell? ⟨g, k * 14 + 9 + 3, none⟩ = some (.slice p.1.Ab p.2.batch.length p.1.cb) := (hrow3.cellAt (k * 14 + 9 + 3) (by have := HML.out; omega)).trans (flat_at recV 14 recV_len _ k _ m3 12 (by decide))
      have hown3 := own_upd hu3 hown2 (fun x hx e => by subst e; exact own_ne hp2 hown2 (by decide) rfl hx)
      have H3 := Lib.hid hW3
      have E3 := Lib.hid e3
      have HMk := Lib.hid hMk
      have Hpk := Lib.hid hpk
      have Hm3 := Lib.hid m3
      clear hW3 e3 hMk hpk m3
      go_wp2_with fail
      rw [← H3.out]
      refine (KB _ W3 hbw3).mono ?_
      rintro e w4 ⟨A4, c4, rfl, hown4, hb4⟩
      have hp4 := own_below hb4 hrow3
      have hr12 : w4.cell? ⟨g, k * 14 + 9 + 3, none⟩ = some (.slice p.1.Ab p.2.batch.length p.1.cb) := (hp4.cellAt (k * 14 + 9 + 3) (by have := HML.out; omega)).trans (flat_at recV 14 recV_len _ k _ Hm3.out 12 (by decide))
      have hrf := fun o => hp4.frozenAt o
      go_wp2_with fail
      have hnext := part_next hp HMk.out hb2 hown2 H3.out hb4 hown4
      go_roundw
      case rel => exact ⟨k + 1, _, by omega, by go_num, hnext⟩
      case measure => simp [intOf]; omega
    · obtain rfl : k = L.length := by omega
      have HML := Lib.hid hp.len
      go_wp2_with fail
      go_ret
      refine ⟨A1, c1, M, hp.same, by rw [HML.out]; rfl, { row := hp.row, batch := ?_, acts := ?_ }, hp.bel⟩
      · intro q hq
        obtain ⟨j, hj⟩ := List.mem_iff_getElem?.1 hq
        exact (hp.fst j q (by rw [← HML.out]; exact (List.getElem?_eq_some_iff.1 hj).1) hj).1
      · intro q hq
        obtain ⟨j, hj⟩ := List.mem_iff_getElem?.1 hq
        exact (hp.fst j q (by rw [← HML.out]; exact (List.getElem?_eq_some_iff.1 hj).1) hj).2

end Go.Proofs.Ytlabnbfcjpggeaa
