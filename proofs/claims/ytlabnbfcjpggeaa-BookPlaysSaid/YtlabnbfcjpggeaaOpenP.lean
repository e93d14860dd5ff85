/- What came in, as BookPlays reads it: each batch within the reach. -/
import Derived.Test.YtlabnbfcjpggeaaOpen
import Derived.SizedLaws
namespace Go.Proofs.Ytlabnbfcjpggeaa
open Go.ChangeShapes Go.WideShapes Go.Deep

section
variable {H : Type} {enc : TypeId × Value → H} {P : Program} {W : World} {base : Nat} {spare : Nat → Bool} {held : Bool}

theorem weights_all {e : TypeId} {l : List (DataW H)} {d : DataW H} (hd : d ∈ l) {n : Nat} (hn : n ∈ d.weights P e) : n ∈ DataW.weightsAll P e l := by
  induction l with
  | nil => cases hd
  | cons x l ih =>
    simp only [DataW.weightsAll, List.mem_append]
    rcases List.mem_cons.1 hd with rfl | h
    · exact .inl hn
    · exact .inr (ih h)

/-- A slice of rows, opened: it reads as a list; what its rows weigh is bounded. -/
theorem open_rowsP {α : Type} [Inhabited α] (f : α → List Value) (k : Nat) (hk : ∀ x, (f x).length = k) (hk0 : 0 < k) (Pr : α → Prop) {t e : TypeId} {fuel n c : Nat} {A : Option Addr} {x : DataW H × List MemPlace}
    (ht : P.underlying t = some (.slice e)) (hC : P.cellsOf e = k) (hel : ∀ m cs y, DataW.trod enc P W base spare held m e cs = some y → (∀ z ∈ y.1.weights P e, z ≤ reachBytes) → ∃ o, cs = f o ∧ Pr o)
    (h : DataW.trod enc P W base spare held fuel t [.slice A n c] = some x) (hx0 : ∀ z ∈ x.1.weights P t, z ≤ reachBytes) : ∃ l : List α, l.length = n ∧ n * P.bytesOf e ≤ reachBytes ∧ SR W (fun _ => True) A (l.flatMap f) ∧ ∀ o ∈ l, Pr o := by
  rcases open_slice ht h with ⟨hcs, _⟩ | ⟨a, len, cap, m, n', D, Pl, hcs, _, hl, _, hm, hxe, hi⟩
  · simp at hcs
    obtain ⟨rfl, rfl, rfl⟩ := hcs
    exact ⟨[], rfl, by simp, SR.nil _ _ _, by simp⟩
  · simp at hcs
    obtain ⟨rfl, rfl, rfl⟩ := hcs
    have hm' : n ≤ m := by rw [hm]; split <;> omega
    have hx : ∀ i, i < n → ∃ o, Pr o ∧ ∀ j, j < k → W.cell? ((a.add (i * k)).add j) = (f o)[j]? := fun i hin => by
      obtain ⟨cs', hc, hd⟩ := hi i (by omega)
      rw [hC] at hc
      obtain ⟨o, rfl, ho⟩ := hel _ _ _ hd (fun z hz => hx0 z (by
        rw [hxe]
        simp only [DataW.weights, ht, List.mem_cons, List.mem_append]
        exact .inr (.inl (weights_all (List.mem_map.2 ⟨i, List.mem_range.2 hin, rfl⟩) hz))))
      exact ⟨o, ho, (World.cells?_some hc).2.2⟩
    let g : Nat → α := fun i => if h : i < n then (hx i h).choose else default
    have hg : ∀ i, i < n → Pr (g i) ∧ ∀ j, j < k → W.cell? ((a.add (i * k)).add j) = (f (g i))[j]? := fun i h => by
      simp only [g, dif_pos h]
      exact (hx i h).choose_spec
    refine ⟨(List.range n).map g, by simp, ?_, fun hn => ?_, fun o ho => ?_⟩
    · have hz := hx0 ((n + (m - n)) * P.bytesOf e) (by rw [hxe]; simp [DataW.weights, ht])
      exact Nat.le_trans (Nat.mul_le_mul_right _ (Nat.le_add_right n (m - n))) hz
    · rw [flat_length f k hk] at hn
      simp at hn
      have hn0 : 0 < n := by rcases Nat.eq_zero_or_pos n with h | h; (subst h; simp at hn); exact h
      obtain ⟨v0, hv0⟩ : ∃ v, (f (g 0))[0]? = some v := ⟨_, List.getElem?_eq_getElem (by rw [hk]; exact hk0)⟩
      have h0 := ((hg 0 hn0).2 0 hk0).trans hv0
      obtain ⟨b, off, ha⟩ := addr_of_cell h0
      have ha0 : a = ⟨b, off, none⟩ := by rw [← ha]; simp [Addr.add]
      subst ha0
      refine ⟨b, off, rfl, trivial, ?_, fun j v hj => ?_⟩
      · have h := World.block_lt_of_cell? W _ h0
        simpa [Addr.add] using h
      · have hjl := (List.getElem?_eq_some_iff.1 hj).1
        rw [flat_length f k hk] at hjl
        simp at hjl
        have hq : j / k < n := (Nat.div_lt_iff_lt_mul hk0).2 hjl
        have hr : j % k < k := Nat.mod_lt _ hk0
        have hj' : j / k * k + j % k = j := by rw [Nat.mul_comm]; exact Nat.div_add_mod j k
        have hf := flat_at f k hk ((List.range n).map g) (j / k) (g (j / k)) (by rw [List.getElem?_map, List.getElem?_range hq]; rfl) (j % k) hr
        rw [hj', hj] at hf
        have hc := (hg (j / k) hq).2 (j % k) hr
        rw [← hf, add_plain', add_plain', Nat.add_assoc, hj'] at hc
        exact hc
    · obtain ⟨i, hi', rfl⟩ := List.mem_map.1 ho
      exact (hg i (List.mem_range.1 hi')).1
end
section
variable {H : Type} {enc : TypeId × Value → H} {W : World} {base : Nat} {spare : Nat → Bool} {held : Bool}
theorem b39 : Try.prog.bytesOf 39 = 24 := by kernel_rfl
/-- What the walks ask of a note that came in. -/
def OpOkP (W : World) (o : OpD) : Prop := wf64 o.kind ∧ wf64 o.thr ∧ wf64 o.ev ∧ wf64 o.err ∧ ∃ bs : List I3, bs.length = o.nb ∧ bs.length * 24 ≤ 140737488351232 ∧ SR W (fun _ => True) o.Ab (duesV bs)

theorem ans_ofP {m : Nat} {cs : List Value} {y : DataW H × List MemPlace} (h : DataW.trod enc Try.prog W base spare held m 37 cs = some y) (hy : ∀ z ∈ y.1.weights Try.prog 37, z ≤ reachBytes) :
    ∃ (e : Int) (ok : Bool) (hn : Int) (A : Option Addr) (n c : Nat), cs = [.int .i64 e, .bool ok, .int .u64 hn, .slice A n c] ∧ wf64 e ∧ ∃ bs : List I3, bs.length = n ∧ bs.length * 24 ≤ 140737488351232 ∧ SR W (fun _ => True) A (duesV bs) := by
  obtain ⟨xs, n, rfl, rfl, hl, hx, hf⟩ := DataW.trod_struct Try.underlying37 h
  rw [c37] at hl
  obtain ⟨v0, v1, v2, v3, rfl⟩ := list4 hl
  have f0 := hf 0 _ rfl
  have f1 := hf 1 _ rfl
  have f2 := hf 2 _ rfl
  have f3 := hf 3 _ rfl
  obtain ⟨z0, e0⟩ := fld hx (by decide) f0
  obtain ⟨z1, e1⟩ := fld hx (by decide) f1
  obtain ⟨z2, e2⟩ := fld hx (by decide) f2
  obtain ⟨z3, e3⟩ := fld hx (by decide) f3
  simp [c4, c27, c29, c23] at e0 e1 e2 e3 f3
  obtain ⟨n0, q0, _, w0⟩ := DataW.trod_int Try.underlying27 e0
  obtain ⟨n1, q1, _⟩ := DataW.trod_bool Try.underlying4 e1
  obtain ⟨n2, q2, _⟩ := DataW.trod_int Try.underlying29 e2
  simp at q0 q1 q2
  subst q0 q1 q2
  have h3 : ∃ A m c, v3 = .slice A m c := by
    rcases DataW.trod_slice Try.underlying23 e3 with ⟨h, _⟩ | ⟨a, len, cap, _, _, _, _, h, _⟩
    · simp at h; exact ⟨_, _, _, h⟩
    · simp at h; exact ⟨_, _, _, h⟩
  obtain ⟨A, m, c, rfl⟩ := h3
  obtain ⟨bs, hb1, hb2, hb3, _⟩ := open_rowsP dueV 3 (fun _ => rfl) (by decide) (fun _ => True) Try.underlying23 c39 (fun _ _ _ h _ => due_of h) e3 (fun z hz => hy z (by
    simp only [DataW.weights, Try.underlying37]
    refine DataW.weights_mem_each (j := 3) rfl ?_ z hz
    rw [List.getElem?_map, ← f3, e3]
    rfl))
  rw [b39] at hb2
  exact ⟨n0, n1, n2, A, m, c, rfl, w0, bs, hb1, by rw [hb1]; exact hb2, hb3⟩

theorem op_ofP {m : Nat} {cs : List Value} {y : DataW H × List MemPlace} (h : DataW.trod enc Try.prog W base spare held m 46 cs = some y) (hy : ∀ z ∈ y.1.weights Try.prog 46, z ≤ reachBytes) : ∃ o : OpD, cs = opV o ∧ OpOkP W o := by
  obtain ⟨xs, n, rfl, rfl, hl, hx, hf⟩ := DataW.trod_struct Try.underlying46 h
  rw [c46] at hl
  obtain ⟨v0, v1, v2, v3, v4, v5, v6, v7, v8, v9, v10, v11, v12, v13, v14, v15, rfl⟩ := list16 hl
  have f0 := hf 0 _ rfl
  have f1 := hf 1 _ rfl
  have f2 := hf 2 _ rfl
  have f3 := hf 3 _ rfl
  have f4 := hf 4 _ rfl
  have f5 := hf 5 _ rfl
  obtain ⟨z0, e0⟩ := fld hx (by decide) f0
  obtain ⟨z1, e1⟩ := fld hx (by decide) f1
  obtain ⟨z2, e2⟩ := fld hx (by decide) f2
  obtain ⟨z3, e3⟩ := fld hx (by decide) f3
  obtain ⟨z4, e4⟩ := fld hx (by decide) f4
  obtain ⟨z5, e5⟩ := fld hx (by decide) f5
  simp [c3, c31, c34, c37] at e0 e1 e2 e3 e4 e5 f5
  obtain ⟨n0, q0, _, w0⟩ := DataW.trod_int Try.underlying3 e0
  obtain ⟨n1, q1, _, w1⟩ := DataW.trod_int Try.underlying3 e1
  obtain ⟨n2, q2, _, w2⟩ := DataW.trod_int Try.underlying3 e2
  obtain ⟨c, q3⟩ := call_of e3
  obtain ⟨a, q4⟩ := act_of e4
  obtain ⟨er, ok, hn, A, nb, cb, q5, we, hbs⟩ := ans_ofP e5 (fun z hz => hy z (by
    simp only [DataW.weights, Try.underlying46]
    refine DataW.weights_mem_each (j := 5) rfl ?_ z hz
    rw [List.getElem?_map, ← f5, e5]
    rfl))
  simp at q0 q1 q2 q3 q4 q5
  obtain ⟨rfl, rfl, rfl, rfl, rfl⟩ := q3
  obtain ⟨rfl, rfl, rfl, rfl⟩ := q4
  obtain ⟨rfl, rfl, rfl, rfl⟩ := q5
  subst q0 q1 q2
  exact ⟨⟨n0, n1, n2, c, a, er, ok, hn, A, nb, cb⟩, rfl, w0, w1, w2, we, hbs⟩

theorem open_opsP {fuel n c : Nat} {A : Option Addr} {x : DataW H × List MemPlace} (h : DataW.trod enc Try.prog W base spare held fuel 22 [.slice A n c] = some x) (hx : ∀ z ∈ x.1.weights Try.prog 22, z ≤ reachBytes) : ∃ ops : List OpD, ops.length = n ∧ SR W (fun _ => True) A (opsV ops) ∧ ∀ o ∈ ops, OpOkP W o := by
  obtain ⟨l, h1, _, h2, h3⟩ := open_rowsP opV 16 opV_len (by decide) (OpOkP W) Try.underlying22 c46 (fun _ _ _ h => op_ofP h) h hx
  exact ⟨l, h1, h2, h3⟩
end
end Go.Proofs.Ytlabnbfcjpggeaa
