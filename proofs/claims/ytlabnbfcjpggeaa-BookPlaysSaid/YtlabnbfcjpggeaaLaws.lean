/- What a note does to a book that lies in memory: outside the walks. -/
import Derived.Test.YtlabnbfcjpggeaaOf
namespace Go.Proofs.Ytlabnbfcjpggeaa
open Go.RowKit Go.Maps

theorem und_snoc (l : List Rec) (r : Rec) (t : Int) (i : Nat) : Und (l ++ [r]) t i ↔ Und l t i ∨ (i = l.length ∧ r.thr = t ∧ r.done = false) := by
  unfold Und
  constructor
  · rintro ⟨x, hx, h1, h2⟩
    rcases Nat.lt_or_ge i l.length with h | h
    · rw [List.getElem?_append_left h] at hx
      exact .inl ⟨x, hx, h1, h2⟩
    · rw [List.getElem?_append_right h] at hx
      have h0 : i - l.length = 0 := by
        rcases Nat.eq_zero_or_pos (i - l.length) with h0 | h0
        · exact h0
        · rw [List.getElem?_eq_none (by simp; omega)] at hx; cases hx
      rw [h0] at hx
      simp at hx
      subst hx
      exact .inr ⟨by omega, h1, h2⟩
  · rintro (⟨x, hx, h1, h2⟩ | ⟨rfl, h1, h2⟩)
    · exact ⟨x, by rw [List.getElem?_append_left (List.getElem?_eq_some_iff.1 hx).1]; exact hx, h1, h2⟩
    · exact ⟨r, by simp, h1, h2⟩

theorem key_int (a : Int) : WideAt.IsKeyLit (.int .i64 a) := trivial
theorem int_ne {a b : Int} (h : a ≠ b) : (Lit.int .i64 a) ≠ (Lit.int .i64 b) := fun e => h (by injection e)

theorem good_put {D : DataW Unit} {l : List Rec} {r : Rec} (hD : Tidy D) (hg : Good D l) (hno : ∀ i, ¬ Und l r.thr i) (ht : wf64 r.thr) (hd : r.done = false) : Good (D.put (.int .i64 r.thr) (.lit (.int .i64 (l.length : Nat)))) (l ++ [r]) := by
  have hhas : Maps.has D (.int .i64 r.thr) = false := by
    rw [← Bool.not_eq_true, hg.1 _ ht]; rintro ⟨i, hi⟩; exact hno i hi
  refine ⟨fun t h => ?_, fun t i h hu => ?_, ?_⟩
  · by_cases e : t = r.thr
    · subst e
      rw [has_put_same hD.isMap (key_int _)]
      exact ⟨fun _ => ⟨l.length, (und_snoc l r _ _).2 (.inr ⟨rfl, rfl, hd⟩)⟩, fun _ => rfl⟩
    · rw [has_put_other (int_ne e), hg.1 t h]
      constructor
      · rintro ⟨i, hi⟩; exact ⟨i, (und_snoc l r t i).2 (.inl hi)⟩
      · rintro ⟨i, hi⟩
        rcases (und_snoc l r t i).1 hi with h1 | ⟨_, h1, _⟩
        · exact ⟨i, h1⟩
        · exact absurd h1.symm e
  · rcases (und_snoc l r t i).1 hu with h1 | ⟨rfl, h1, _⟩
    · have e : t ≠ r.thr := fun e => hno i (by rw [← e]; exact h1)
      rw [atKey_put_other (int_ne e)]
      exact hg.2.1 t i h h1
    · subst h1
      rw [atKey_put_same hD.isMap (key_int _)]
  · rw [size_put hD, hhas, hg.2.2]
    unfold open_
    rw [List.filter_append]
    simp [hd]

/-- The book behind a Begin. -/
theorem begin_close {w w2 w3 w4 : World} {F : Nat → Prop} {bp bm : Nat} {Al : Option Addr} {cl : Nat} {L : List (RH × Rec)} {r : Rec} {D : DataW Unit} {gg cap : Nat}
    (hb2 : BookAt w2 F bp bm Al cl L) (hu2 : Upd (fun _ => False) w w2)
    (hown2 : w2.ownsMap (H := Unit) Try.prog 3 (plainElem Try.prog 3) bm (L.map (·.2)).length D) (hg : Good D (L.map (·.2))) (hwf : ∀ r ∈ L.map (·.2), wf64 r.thr)
    (hno : ∀ i, ¬ Und (L.map (·.2)) r.thr i) (ht : wf64 r.thr) (hd : r.done = false) (hrb : r.batch = []) (hra : r.acts = [])
    (hown3 : w3.ownsMap (H := Unit) Try.prog 3 (plainElem Try.prog 3) bm ((L.map (·.2)).length + 1) (D.put (.int .i64 r.thr) (.lit (.int .i64 (L.length : Nat))))) (hgrow3 : w2.grownBy w3 (some bm))
    (hown4 : w4.ownsRow 0 44 14 (.slice (some ⟨gg, 0, none⟩) (L.length + 1) cap) (L.length + 1) (recsV L ++ recV (⟨none, 0, none, 0⟩, r)))
    (hu4 : Upd (fun k => (Value.slice Al L.length cl).ownBlock = some k) w3 w4) (hat4 : (Value.slice Al L.length cl).ownBlock = some gg ∨ w.heap.size ≤ gg) :
    BookAt (w4.setCell ⟨bp, 0, none⟩ (.slice (some ⟨gg, 0, none⟩) (L.length + 1) cap)) (fun k => F k ∨ w.heap.size ≤ k) bp bm (some ⟨gg, 0, none⟩) cap (L ++ [(⟨none, 0, none, 0⟩, r)]) ∧ Upd F w (w4.setCell ⟨bp, 0, none⟩ (.slice (some ⟨gg, 0, none⟩) (L.length + 1) cap)) := by
  obtain ⟨es2, clk2, hm2, _⟩ := hown2
  have hu3 : Upd (fun k => k = bm) w2 w3 := (Upd.refl _ _).grown hgrow3 (fun k hk _ => by injection hk with hk; exact hk.symm)
  have hbm2 : bp ≠ bm := by
    intro e
    have hf := hb2.fields
    rw [e, hm2] at hf
    cases hf
  have hf3 := hu3.heap hb2.fields hbm2
  have hrow3 : w3.ownsRow 0 44 14 (.slice Al L.length cl) L.length (recsV L) := own_upd hu3 hb2.row (fun g hg e => by subst e; exact own_heap_ne hb2.row hm2 (fun cur h => by cases h) hg)
  have hne4 : ¬ (Value.slice Al L.length cl).ownBlock = some bp := fun e => own_heap_ne hrow3 hf3 (fun cur h => by injection h with _ h; exact absurd h (by decide)) e
  have hf4 := hu4.heap hf3 hne4
  obtain ⟨es3, clk3, hm3, hm3'⟩ := hown3
  have hmr : ¬ (Value.slice Al L.length cl).ownBlock = some bm := own_heap_ne hrow3 hm3 (fun cur h => by cases h)
  have hm4 := hu4.heap hm3 hmr
  -- what lies neither in the map, nor in the row, nor in the fields
  have keep : ∀ {el size n : Nat} {v : Value} {xs : List Value}, el ≠ 44 → el ≠ 61 → w2.ownsRow 0 el size v n xs → (w4.setCell ⟨bp, 0, none⟩ (.slice (some ⟨gg, 0, none⟩) (L.length + 1) cap)).ownsRow 0 el size v n xs := by
    intro el size n v xs h44 h61 h
    have h3 := own_upd hu3 h (fun g hg e => by subst e; exact own_heap_ne h hm2 (fun cur h => by cases h) hg)
    have h4 := own_upd hu4 h3 (fun g hg e => own_ne hrow3 h3 h44.symm e hg)
    refine own_upd ((Upd.refl (fun k => k = bp) w4).setCell (p := ⟨bp, 0, none⟩) (fun _ => rfl) _) h4 (fun g hg e => ?_)
    subst e
    exact own_heap_ne h4 hf4 (fun cur h => by injection h with _ h; exact h61 h.symm) hg
  have hset : Upd (fun k => k = bp) w4 (w4.setCell ⟨bp, 0, none⟩ (.slice (some ⟨gg, 0, none⟩) (L.length + 1) cap)) := (Upd.refl (fun k => k = bp) w4).setCell (p := ⟨bp, 0, none⟩) (fun _ => rfl) _
  constructor
  · have htidy : Tidy D := World.ownsMap.tidy ⟨es2, clk2, hm2, by assumption⟩ law
    refine { fields := ?_, row := ?_, map := ⟨D.put (.int .i64 r.thr) (.lit (.int .i64 ((L.map (·.2)).length : Nat))), ⟨es3, clk3, hset.heap hm4 (fun e => hbm2 e.symm), by simpa using hm3'⟩, by rw [List.map_append]; exact good_put htidy hg hno ht hd, ?_⟩, batch := ?_, acts := ?_, apart := ?_, fb := .inl hb2.fb, fm := .inl hb2.fm, fr := ?_, fs := ?_ }
    · have h := heap_setCell_same w4 bp 0 _ 61 (.slice (some ⟨gg, 0, none⟩) (L.length + 1) cap) hf4
      simpa using h
    · have h := own_upd hset hown4 (fun g hg e => by subst e; exact own_heap_ne hown4 hf4 (fun cur h => by injection h with _ h; exact absurd h (by decide)) hg)
      rw [List.length_append, recsV_app]
      simpa [recsV] using h
    · intro x hx
      rw [List.map_append, List.mem_append] at hx
      rcases hx with hx | hx
      · exact hwf x hx
      · simp at hx; subst hx; exact ht
    · intro p hp
      rcases List.mem_append.1 hp with hp | hp
      · exact keep (by decide) (by decide) (hb2.batch p hp)
      · simp at hp; subst hp; simp only [bSl, hrb]; exact ⟨rfl, .inl ⟨rfl, rfl⟩⟩
    · intro p hp
      rcases List.mem_append.1 hp with hp | hp
      · exact keep (by decide) (by decide) (hb2.acts p hp)
      · simp at hp; subst hp; simp only [aSl, hra]; exact ⟨rfl, .inl ⟨rfl, rfl⟩⟩
    · intro i j p q hi hj g hgp hgq
      have old : ∀ (k : Nat) (x : RH × Rec), (L ++ [((⟨none, 0, none, 0⟩ : RH), r)])[k]? = some x → (aSl x).ownBlock = some g → L[k]? = some x := by
        intro k x hk hx
        rcases Nat.lt_or_ge k L.length with h | h
        · rw [List.getElem?_append_left h] at hk; exact hk
        · rw [List.getElem?_append_right h] at hk
          rcases Nat.eq_zero_or_pos (k - L.length) with h0 | h0
          · rw [h0] at hk; simp at hk; subst hk; simp [aSl, Value.ownBlock] at hx
          · rw [List.getElem?_eq_none (by simp; omega)] at hk; cases hk
      exact hb2.apart i j p q (old i p hi hgp) (old j q hj hgq) g hgp hgq
    · intro g hg
      injection hg with hg
      subst hg
      rcases hat4 with h | h
      · exact .inl (hb2.fr _ h)
      · exact .inr h
    · intro p hp
      rcases List.mem_append.1 hp with hp | hp
      · exact ⟨fun g e => .inl ((hb2.fs p hp).1 g e), fun g e => .inl ((hb2.fs p hp).2 g e)⟩
      · simp at hp; subst hp; exact ⟨fun g e => by simp [bSl, Value.ownBlock] at e, fun g e => by simp [aSl, Value.ownBlock] at e⟩
  · have h1 : Upd F w w2 := hu2.mono (fun _ _ h => h.elim)
    exact ((h1.trans hu3 (fun i _ e => by rw [e]; exact hb2.fm)).trans hu4 (fun i _ e => hb2.fr i e)).trans hset (fun i _ e => by rw [e]; exact hb2.fb)

end Go.Proofs.Ytlabnbfcjpggeaa
