/- What an act, and an end, do to a book that lies in memory: outside the walks. -/
import Derived.Test.YtlabnbfcjpggeaaLaws
namespace Go.Proofs.Ytlabnbfcjpggeaa
open Go.RowKit Go.Maps

theorem set_get {α : Type} {L : List α} {i k : Nat} {x y : α} (h : (L.set i x)[k]? = some y) : (k = i ∧ y = x) ∨ (k ≠ i ∧ L[k]? = some y) := by
  rw [List.getElem?_set] at h
  by_cases e : i = k
  · subst e
    rw [if_pos rfl] at h
    split at h
    · injection h with h; exact .inl ⟨rfl, h.symm⟩
    · cases h
  · rw [if_neg e] at h
    exact .inr ⟨fun e' => e e'.symm, h⟩
theorem set_mem {α : Type} {L : List α} {i : Nat} {x y : α} (h : y ∈ L.set i x) : y = x ∨ ∃ k, k ≠ i ∧ L[k]? = some y := by
  obtain ⟨k, hk⟩ := List.mem_iff_getElem?.1 h
  rcases set_get hk with ⟨_, e⟩ | ⟨e, hk⟩
  · exact .inl e
  · exact .inr ⟨k, e, hk⟩

theorem und_get {L : List (RH × Rec)} {t : Int} {i : Nat} (h : Und (L.map (·.2)) t i) : ∃ p, L[i]? = some p ∧ p.2.thr = t ∧ p.2.done = false := by
  obtain ⟨r, hr, h1, h2⟩ := h
  rw [List.getElem?_map] at hr
  cases hp : L[i]? with
  | none => rw [hp] at hr; cases hr
  | some p => rw [hp] at hr; simp at hr; subst hr; exact ⟨p, rfl, h1, h2⟩

theorem und_set {l : List Rec} {i : Nat} {r r' : Rec} (hi : l[i]? = some r) (h1 : r'.thr = r.thr) (h2 : r'.done = r.done) (t : Int) (k : Nat) : Und (l.set i r') t k ↔ Und l t k := by
  unfold Und
  constructor
  · rintro ⟨x, hx, hx1, hx2⟩
    rcases set_get hx with ⟨rfl, rfl⟩ | ⟨_, hx⟩
    · exact ⟨r, hi, by rw [← h1]; exact hx1, by rw [← h2]; exact hx2⟩
    · exact ⟨x, hx, hx1, hx2⟩
  · rintro ⟨x, hx, hx1, hx2⟩
    by_cases e : k = i
    · subst e
      rw [hi] at hx
      injection hx with hx
      subst hx
      exact ⟨r', by rw [List.getElem?_set_self (List.getElem?_eq_some_iff.1 hi).1], by rw [h1]; exact hx1, by rw [h2]; exact hx2⟩
    · exact ⟨x, by rw [List.getElem?_set_ne (fun e' => e e'.symm)]; exact hx, hx1, hx2⟩

theorem open_set {l : List Rec} {i : Nat} {r r' : Rec} (hi : l[i]? = some r) (h2 : r'.done = r.done) : open_ (l.set i r') = open_ l := by
  unfold open_
  induction l generalizing i with
  | nil => rfl
  | cons x l ih =>
    cases i with
    | zero =>
      simp at hi
      subst hi
      rw [List.set_cons_zero, List.filter_cons, List.filter_cons, h2]
      split <;> rfl
    | succ i =>
      simp at hi
      rw [List.set_cons_succ, List.filter_cons, List.filter_cons]
      have := ih hi
      split <;> simp [this]
theorem open_end {l : List Rec} {i : Nat} {r r' : Rec} (hi : l[i]? = some r) (h1 : r.done = false) (h2 : r'.done = true) : open_ (l.set i r') + 1 = open_ l := by
  unfold open_
  induction l generalizing i with
  | nil => simp at hi
  | cons x l ih =>
    cases i with
    | zero =>
      simp at hi
      subst hi
      rw [List.set_cons_zero, List.filter_cons, List.filter_cons, h2, h1]
      simp
    | succ i =>
      simp at hi
      rw [List.set_cons_succ, List.filter_cons, List.filter_cons]
      have := ih hi
      split
      · rw [List.length_cons, List.length_cons]; omega
      · exact this

theorem good_set {D : DataW Unit} {l : List Rec} {i : Nat} {r r' : Rec} (hg : Good D l) (hi : l[i]? = some r) (h1 : r'.thr = r.thr) (h2 : r'.done = r.done) : Good D (l.set i r') :=
  ⟨fun t h => (hg.1 t h).trans ⟨fun ⟨k, hk⟩ => ⟨k, (und_set hi h1 h2 t k).2 hk⟩, fun ⟨k, hk⟩ => ⟨k, (und_set hi h1 h2 t k).1 hk⟩⟩, fun t k h hu => hg.2.1 t k h ((und_set hi h1 h2 t k).1 hu), hg.2.2.trans (open_set hi h2).symm⟩

theorem good_del {D : DataW Unit} {l : List Rec} {i : Nat} {r r' : Rec} (hD : Tidy D) (hg : Good D l) (hi : l[i]? = some r) (h0 : r.done = false) (ht : wf64 r.thr) (h1 : r'.thr = r.thr) (h2 : r'.done = true) : Good (D.del (.int .i64 r.thr)) (l.set i r') := by
  have hu0 : Und l r.thr i := ⟨r, hi, rfl, h0⟩
  have hone : ∀ k, Und l r.thr k → k = i := fun k hk => by
    have e1 := hg.2.1 r.thr k ht hk
    rw [hg.2.1 r.thr i ht hu0] at e1
    injection e1 with e1
    injection e1 with _ e1
    omega
  have key : ∀ t k, Und (l.set i r') t k ↔ (t ≠ r.thr ∧ Und l t k) := by
    intro t k
    constructor
    · rintro ⟨x, hx, hx1, hx2⟩
      rcases set_get hx with ⟨rfl, rfl⟩ | ⟨e, hx⟩
      · rw [h2] at hx2; cases hx2
      · refine ⟨fun e' => e (hone k ⟨x, hx, by rw [hx1, e'], hx2⟩), x, hx, hx1, hx2⟩
    · rintro ⟨hne, x, hx, hx1, hx2⟩
      have e : k ≠ i := fun e => by
        subst e
        rw [hi] at hx
        injection hx with hx
        subst hx
        exact hne hx1.symm
      exact ⟨x, by rw [List.getElem?_set_ne (fun e' => e e'.symm)]; exact hx, hx1, hx2⟩
  refine ⟨fun t h => ?_, fun t k h hu => ?_, ?_⟩
  · by_cases e : t = r.thr
    · subst e
      rw [has_del_same]
      exact ⟨fun h => (by cases h), fun ⟨k, hk⟩ => absurd rfl ((key _ k).1 hk).1⟩
    · rw [has_del_other (int_ne e), hg.1 t h]
      exact ⟨fun ⟨k, hk⟩ => ⟨k, (key t k).2 ⟨e, hk⟩⟩, fun ⟨k, hk⟩ => ⟨k, ((key t k).1 hk).2⟩⟩
  · obtain ⟨hne, hu'⟩ := (key t k).1 hu
    rw [atKey_del_other (int_ne hne)]
    exact hg.2.1 t k h hu'
  · have h3 := size_del (k := .int .i64 r.thr) hD
    rw [(hg.1 _ ht).2 ⟨i, hu0⟩, if_pos rfl, hg.2.2, ← open_end hi h0 h2] at h3
    omega

/-- The book behind an act: the record at place i has one act more. -/
theorem act_close {w w1 w4 : World} {F : Nat → Prop} {bp bm g i : Nat} {cl : Nat} {L : List (RH × Rec)} {p : RH × Rec} {a : I4} {gg cap : Nat}
    (hb : BookAt w1 F bp bm (some ⟨g, 0, none⟩) cl L) (hu1 : Upd (fun _ => False) w w1) (hlow : ∀ (k : Nat) (q : RH × Rec), L[k]? = some q → ∀ x, (aSl q).ownBlock = some x → x < w.heap.size) (hi : L[i]? = some p)
    (hown4 : w4.ownsRow 0 34 4 (.slice (some ⟨gg, 0, none⟩) (p.2.acts.length + 1) cap) (p.2.acts.length + 1) (actsV p.2.acts ++ actV a))
    (hu4 : Upd (fun k => (aSl p).ownBlock = some k) w1 w4) (hat4 : (aSl p).ownBlock = some gg ∨ w.heap.size ≤ gg) :
    let p' : RH × Rec := ({ p.1 with Aa := some ⟨gg, 0, none⟩, ca := cap }, { p.2 with acts := p.2.acts ++ [a] })
    let W := w4.setCell ⟨g, i * 14 + 13, none⟩ (.slice (some ⟨gg, 0, none⟩) (p.2.acts.length + 1) cap)
    BookAt W (fun k => F k ∨ w.heap.size ≤ k) bp bm (some ⟨g, 0, none⟩) cl (L.set i p') ∧ Upd F w W := by
  intro p' W
  have hpm : p ∈ L := List.mem_iff_getElem?.2 ⟨i, hi⟩
  have hact := hb.acts p hpm
  obtain ⟨D, ⟨es, clk, hm, hm'⟩, hg, hwf⟩ := hb.map
  have hset : Upd (fun k => k = g) w4 W := (Upd.refl (fun k => k = g) w4).setCell (p := ⟨g, i * 14 + 13, none⟩) (fun _ => rfl) _
  have hbpa : ¬ (aSl p).ownBlock = some bp := own_heap_ne hact hb.fields (fun cur h => by injection h with _ h; exact absurd h (by decide))
  have hbma : ¬ (aSl p).ownBlock = some bm := own_heap_ne hact hm (fun cur h => by cases h)
  have hrow4 := own_upd hu4 hb.row (fun x hx e => own_ne hact hb.row (by decide) e hx)
  have hbpg : bp ≠ g := fun e => by subst e; exact own_heap_ne hb.row hb.fields (fun cur h => by injection h with _ h; exact absurd h (by decide)) rfl
  have hbmg : bm ≠ g := fun e => by subst e; exact own_heap_ne hb.row hm (fun cur h => by cases h) rfl
  have hsl : aSl p' = .slice (some ⟨gg, 0, none⟩) (p.2.acts.length + 1) cap := by simp [aSl, p']
  have hL' : (L.set i p').map (·.2) = (L.map (·.2)).set i p'.2 := by rw [List.map_set]
  have hi2 : (L.map (·.2))[i]? = some p.2 := by rw [List.getElem?_map, hi]; rfl
  have other : ∀ {e size n : Nat} {v : Value} {xs : List Value}, e ≠ 44 → w1.ownsRow 0 e size v n xs → (∀ x, v.ownBlock = some x → ¬ (aSl p).ownBlock = some x) → W.ownsRow 0 e size v n xs := by
    intro e size n v xs h44 h hne
    have h4 := own_upd hu4 h hne
    exact own_upd hset h4 (fun x hx e' => by subst e'; exact own_ne hrow4 h4 h44.symm rfl hx)
  constructor
  · refine { fields := ?_, row := ?_, map := ⟨D, ⟨es, clk, hset.heap (hu4.heap hm hbma) hbmg, by simpa using hm'⟩, by rw [hL']; exact good_set hg hi2 rfl rfl, ?_⟩, batch := ?_, acts := ?_, apart := ?_, fb := .inl hb.fb, fm := .inl hb.fm, fr := ?_, fs := ?_ }
    · rw [List.length_set]
      exact hset.heap (hu4.heap hb.fields hbpa) hbpg
    · rw [List.length_set]
      have h := (hrow4.stored (i * 14 + 13) (.slice (some ⟨gg, 0, none⟩) (p.2.acts.length + 1) cap)).1
      have e := flat_set recV 14 recV_len L i p p' hi 13 (aSl p') (by decide) rfl
      rw [hsl] at e
      unfold recsV at h ⊢
      rw [e]
      exact h
    · rw [hL']
      intro x hx
      rcases set_mem hx with rfl | ⟨k, _, hk⟩
      · exact hwf p.2 (List.mem_map.2 ⟨p, hpm, rfl⟩)
      · exact hwf x (List.mem_iff_getElem?.2 ⟨k, hk⟩)
    · intro q hq
      rcases set_mem hq with rfl | ⟨k, _, hk⟩
      · exact other (by decide) (hb.batch p hpm) (fun x hx => own_ne (hb.batch p hpm) hact (by decide) hx)
      · have hqm := List.mem_iff_getElem?.2 ⟨k, hk⟩
        exact other (by decide) (hb.batch q hqm) (fun x hx => own_ne (hb.batch q hqm) hact (by decide) hx)
    · intro q hq
      rcases set_mem hq with rfl | ⟨k, hki, hk⟩
      · rw [hsl]
        have h := own_upd hset hown4 (fun x hx e' => by subst e'; exact own_ne hrow4 hown4 (by decide) rfl hx)
        simpa [p', actsV] using h
      · have hqm := List.mem_iff_getElem?.2 ⟨k, hk⟩
        exact other (by decide) (hb.acts q hqm) (fun x hx e => hki (hb.apart k i q p hk hi x hx e))
    · intro k1 k2 q1 q2 h1 h2 x hx1 hx2
      rcases set_get h1 with ⟨rfl, rfl⟩ | ⟨e1, g1⟩ <;> rcases set_get h2 with ⟨rfl, rfl⟩ | ⟨e2, g2⟩
      · rfl
      · rw [hsl] at hx1
        injection hx1 with hx1
        subst hx1
        rcases hat4 with h | h
        · exact absurd (hb.apart k2 k1 q2 p g2 hi gg hx2 h) e2
        · have := hlow k2 q2 g2 gg hx2; omega
      · rw [hsl] at hx2
        injection hx2 with hx2
        subst hx2
        rcases hat4 with h | h
        · exact absurd (hb.apart k1 k2 q1 p g1 hi gg hx1 h) e1
        · have := hlow k1 q1 g1 gg hx1; omega
      · exact hb.apart k1 k2 q1 q2 g1 g2 x hx1 hx2
    · rw [List.length_set]
      exact fun x hx => .inl (hb.fr x hx)
    · intro q hq
      rcases set_mem hq with rfl | ⟨k, _, hk⟩
      · refine ⟨fun x hx => .inl ((hb.fs p hpm).1 x hx), fun x hx => ?_⟩
        rw [hsl] at hx
        injection hx with hx
        subst hx
        rcases hat4 with h | h
        · exact .inl ((hb.fs p hpm).2 _ h)
        · exact .inr h
      · have hqm := List.mem_iff_getElem?.2 ⟨k, hk⟩
        exact ⟨fun x hx => .inl ((hb.fs q hqm).1 x hx), fun x hx => .inl ((hb.fs q hqm).2 x hx)⟩
  · have h1 : Upd F w w1 := hu1.mono (fun _ _ h => h.elim)
    exact (h1.trans hu4 (fun k _ e => (hb.fs p hpm).2 k e)).trans hset (fun k _ e => by rw [e]; exact hb.fr g rfl)

end Go.Proofs.Ytlabnbfcjpggeaa
