/- The threads under way, in the order of their places: plain. -/
import Derived.Test.YtlabnbfcjpggeaaUnd1
import Derived.Test.YtlabnbfcjpggeaaRef
import Derived.Lib.SlKeysI
namespace Go.Proofs.Ytlabnbfcjpggeaa
open Go.RowKit Go.Maps Go.Sort

theorem und_plc {D : DataW Unit} {l : List Rec} (hg : Good D l) {t : Int} {i : Nat} (ht : wf64 t) (hu : Und l t i) : plc D t = i := plc_of (hg.2.1 t i ht hu)
theorem und_wf {l : List Rec} (hwf : ∀ r ∈ l, wf64 r.thr) {t : Int} {i : Nat} (hu : Und l t i) : wf64 t := by
  obtain ⟨r, hr, h1, _⟩ := hu
  rw [← h1]
  exact hwf r (List.mem_iff_getElem?.2 ⟨i, hr⟩)
theorem und_one {D : DataW Unit} {l : List Rec} (hg : Good D l) (hwf : ∀ r ∈ l, wf64 r.thr) {t : Int} {i j : Nat} (hi : Und l t i) (hj : Und l t j) : j = i := by
  have h1 := und_plc hg (und_wf hwf hi) hi
  have h2 := und_plc hg (und_wf hwf hj) hj
  omega
theorem mem_thrs {l : List Rec} {t : Int} : t ∈ thrs l ↔ ∃ i, Und l t i := by
  unfold thrs Und
  rw [List.mem_map]
  constructor
  · rintro ⟨r, hr, rfl⟩
    rw [List.mem_filter] at hr
    obtain ⟨i, hi⟩ := List.mem_iff_getElem?.1 hr.1
    exact ⟨i, r, hi, rfl, by simpa using hr.2⟩
  · rintro ⟨i, r, hr, h1, h2⟩
    exact ⟨r, List.mem_filter.2 ⟨List.mem_iff_getElem?.2 ⟨i, hr⟩, by simp [h2]⟩, h1⟩
theorem thrs_rise (p : Int → Int) (l : List Rec) : ∀ k : Nat, (∀ (i : Nat) r, l[i]? = some r → r.done = false → p r.thr = ((k + i : Nat) : Int)) → (thrs l).Pairwise (fun a b => p a < p b) ∧ ∀ a ∈ thrs l, (k : Int) ≤ p a := by
  induction l with
  | nil => intro k _; exact ⟨List.Pairwise.nil, fun a ha => by simp [thrs] at ha⟩
  | cons r l ih =>
    intro k h
    have h' := ih (k + 1) (fun i x hx hd => by have := h (i + 1) x (by simpa using hx) hd; rw [this]; congr 1; omega)
    cases hd : r.done with
    | true =>
      have e : thrs (r :: l) = thrs l := by simp [thrs, hd]
      rw [e]
      exact ⟨h'.1, fun a ha => by have := h'.2 a ha; omega⟩
    | false =>
      have e : thrs (r :: l) = r.thr :: thrs l := by simp [thrs, hd]
      have h0 := h 0 r rfl hd
      rw [e]
      refine ⟨List.pairwise_cons.2 ⟨fun a ha => by have := h'.2 a ha; omega, h'.1⟩, fun a ha => ?_⟩
      rcases List.mem_cons.1 ha with rfl | ha
      · omega
      · have := h'.2 a ha; omega
theorem thrs_pw {D : DataW Unit} {l : List Rec} (hg : Good D l) (hwf : ∀ r ∈ l, wf64 r.thr) : (thrs l).Pairwise (fun a b => plc D a < plc D b) :=
  (thrs_rise (plc D) l 0 (fun i r hr hd => by
    rw [und_plc hg (hwf r (List.mem_iff_getElem?.2 ⟨i, hr⟩)) ⟨r, hr, rfl, hd⟩]; simp)).1
theorem thrs_nodup {D : DataW Unit} {l : List Rec} (hg : Good D l) (hwf : ∀ r ∈ l, wf64 r.thr) : (thrs l).Nodup :=
  (thrs_pw hg hwf).imp (fun h e => by rw [e] at h; omega)

/-- Whoever holds the map's keys in the order of their places holds the threads. -/
theorem thrs_of {D : DataW Unit} {l : List Rec} {w : World} {bm n : Nat} (hown : w.ownsMap (H := Unit) Try.prog 3 (plainElem Try.prog 3) bm n D) (hg : Good D l) (hwf : ∀ r ∈ l, wf64 r.thr) {ss : List Int} (hp : ss.Perm (intKeys D)) (hs : ss.Pairwise (fun a b => plc D a ≤ plc D b)) : ss = thrs l := by
  have hw := intKeys_wf hown Try.underlying3
  have hT : (thrs l).Perm (intKeys D) := CollectedI.perm (left := fun _ => false) ⟨thrs_nodup hg hwf, fun x => by
    rw [mem_thrs]
    constructor
    · rintro ⟨i, hi⟩
      exact ⟨(hg.1 x (und_wf hwf hi)).2 ⟨i, hi⟩, rfl⟩
    · rintro ⟨hx, _⟩
      have hxw : wf64 x := by
        obtain ⟨es, rfl, hko⟩ := hown.keysOf
        rw [has_eq, List.any_eq_true] at hx
        obtain ⟨p, hp, hsk⟩ := hx
        obtain ⟨v, hv⟩ := hko p hp
        obtain ⟨y, _, hy, hl⟩ := Maps.keyOf_i64 Try.underlying3 hv
        rw [hy] at hsk
        have : y = x := by simpa [Lit.sameKey] using hsk
        subst this
        exact hl
      exact (hg.1 x hxw).1 hx⟩ hown law Try.underlying3 (fun _ => rfl)
  refine List.Perm.eq_of_pairwise (le := fun a b => plc D a ≤ plc D b) (fun a b ha hb h1 h2 => ?_) hs ((thrs_pw hg hwf).imp (fun h => Int.le_of_lt h)) (hp.trans hT.symm)
  have ha' : a ∈ thrs l := (hT.symm.mem_iff).1 ((hp.mem_iff).1 ha)
  obtain ⟨i, hi⟩ := mem_thrs.1 ha'
  obtain ⟨j, hj⟩ := mem_thrs.1 hb
  have e1 := und_plc hg (und_wf hwf hi) hi
  have e2 := und_plc hg (und_wf hwf hj) hj
  have e : i = j := by omega
  subst e
  obtain ⟨r, hr, h3, _⟩ := hi
  obtain ⟨r', hr', h4, _⟩ := hj
  rw [hr] at hr'
  injection hr' with hr'
  rw [← h3, ← h4, hr']
end Go.Proofs.Ytlabnbfcjpggeaa
