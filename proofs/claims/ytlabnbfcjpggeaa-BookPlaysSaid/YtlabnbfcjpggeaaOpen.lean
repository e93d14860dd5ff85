/- What came in, as the walks read it: slices of structs, fields nested. -/
import Derived.Test.YtlabnbfcjpggeaaKeeps
import Derived.Deep.Slices
import Derived.Deep.Fields
import Derived.ChangeSame
namespace Go.Proofs.Ytlabnbfcjpggeaa
open Go.ChangeShapes Go.WideShapes Go.Deep

theorem addr_of_cell {w : World} {a : Addr} {v : Value} (h : w.cell? a = some v) : ∃ b off, a = ⟨b, off, none⟩ := by
  obtain ⟨b, off, f⟩ := a
  obtain rfl : f = none := by simpa using World.cell?_spot h
  exact ⟨b, off, rfl⟩

section
variable {H : Type} {enc : TypeId × Value → H} {P : Program} {W : World} {base : Nat} {spare : Nat → Bool} {held : Bool}

/-- A slice of rows, opened: it reads as a list. -/
theorem open_rows {α : Type} [Inhabited α] (f : α → List Value) (k : Nat) (hk : ∀ x, (f x).length = k) (hk0 : 0 < k) (Pr : α → Prop) {t e : TypeId} {fuel n c : Nat} {A : Option Addr} {x : DataW H × List MemPlace}
    (ht : P.underlying t = some (.slice e)) (hC : P.cellsOf e = k) (hel : ∀ m cs y, DataW.trod enc P W base spare held m e cs = some y → ∃ o, cs = f o ∧ Pr o)
    (h : DataW.trod enc P W base spare held fuel t [.slice A n c] = some x) : ∃ l : List α, l.length = n ∧ SR W (fun _ => True) A (l.flatMap f) ∧ ∀ o ∈ l, Pr o := by
  rcases open_slice ht h with ⟨hcs, _⟩ | ⟨a, len, cap, m, n', D, Pl, hcs, _, hl, _, hm, _, hi⟩
  · simp at hcs
    obtain ⟨rfl, rfl, rfl⟩ := hcs
    exact ⟨[], rfl, SR.nil _ _ _, by simp⟩
  · simp at hcs
    obtain ⟨rfl, rfl, rfl⟩ := hcs
    have hm' : n ≤ m := by rw [hm]; split <;> omega
    have hx : ∀ i, i < n → ∃ o, Pr o ∧ ∀ j, j < k → W.cell? ((a.add (i * k)).add j) = (f o)[j]? := fun i hin => by
      obtain ⟨cs', hc, hd⟩ := hi i (by omega)
      rw [hC] at hc
      obtain ⟨o, rfl, ho⟩ := hel _ _ _ hd
      exact ⟨o, ho, (World.cells?_some hc).2.2⟩
    let g : Nat → α := fun i => if h : i < n then (hx i h).choose else default
    have hg : ∀ i, i < n → Pr (g i) ∧ ∀ j, j < k → W.cell? ((a.add (i * k)).add j) = (f (g i))[j]? := fun i h => by
      simp only [g, dif_pos h]
      exact (hx i h).choose_spec
    refine ⟨(List.range n).map g, by simp, fun hn => ?_, fun o ho => ?_⟩
    · rw [flat_length f k hk] at hn
      simp at hn
      have hn0 : 0 < n := by rcases Nat.eq_zero_or_pos n with h | h; (subst h; simp at hn); exact h
      obtain ⟨v0, hv0⟩ : ∃ v, (f (g 0))[0]? = some v := ⟨_, List.getElem?_eq_getElem (by rw [hk]; exact hk0)⟩
      have h0 := ((hg 0 hn0).2 0 hk0).trans hv0
      obtain ⟨b, off, ha⟩ := addr_of_cell h0
      have ha0 : a = ⟨b, off, none⟩ := by rw [← ha]; simp [Addr.add]
      subst ha0
      refine ⟨b, off, rfl, trivial, ?_, fun j v hj => ?_⟩
      · have h := World.block_lt_of_cell? W _ h0
        simpa [Addr.add] using h
      · have hjl := (List.getElem?_eq_some_iff.1 hj).1
        rw [flat_length f k hk] at hjl
        simp at hjl
        have hq : j / k < n := (Nat.div_lt_iff_lt_mul hk0).2 hjl
        have hr : j % k < k := Nat.mod_lt _ hk0
        have hj' : j / k * k + j % k = j := by rw [Nat.mul_comm]; exact Nat.div_add_mod j k
        have hf := flat_at f k hk ((List.range n).map g) (j / k) (g (j / k)) (by rw [List.getElem?_map, List.getElem?_range hq]; rfl) (j % k) hr
        rw [hj', hj] at hf
        have hc := (hg (j / k) hq).2 (j % k) hr
        rw [← hf, add_plain', add_plain', Nat.add_assoc, hj'] at hc
        exact hc
    · obtain ⟨i, hi', rfl⟩ := List.mem_map.1 ho
      exact (hg i (List.mem_range.1 hi')).1

/-- A struct's field. -/
theorem fld {xs : List (DataW H × List MemPlace)} {k i : Nat} {y : Option (DataW H × List MemPlace)} (hx : xs.length = k) (hi : i < k) (h : y = xs[i]?) : ∃ z, y = some z := ⟨_, h.trans (List.getElem?_eq_getElem (hx ▸ hi))⟩
end

theorem list3 {α : Type} {l : List α} (h : l.length = 3) : ∃ v0 v1 v2, l = [v0, v1, v2] :=
  match l, h with
  | [v0, v1, v2], _ => ⟨v0, v1, v2, rfl⟩
theorem list4 {α : Type} {l : List α} (h : l.length = 4) : ∃ v0 v1 v2 v3, l = [v0, v1, v2, v3] :=
  match l, h with
  | [v0, v1, v2, v3], _ => ⟨v0, v1, v2, v3, rfl⟩
theorem list5 {α : Type} {l : List α} (h : l.length = 5) : ∃ v0 v1 v2 v3 v4, l = [v0, v1, v2, v3, v4] :=
  match l, h with
  | [v0, v1, v2, v3, v4], _ => ⟨v0, v1, v2, v3, v4, rfl⟩
theorem list16 {α : Type} {l : List α} (h : l.length = 16) : ∃ v0 v1 v2 v3 v4 v5 v6 v7 v8 v9 v10 v11 v12 v13 v14 v15, l = [v0, v1, v2, v3, v4, v5, v6, v7, v8, v9, v10, v11, v12, v13, v14, v15] :=
  match l, h with
  | [v0, v1, v2, v3, v4, v5, v6, v7, v8, v9, v10, v11, v12, v13, v14, v15], _ => ⟨v0, v1, v2, v3, v4, v5, v6, v7, v8, v9, v10, v11, v12, v13, v14, v15, rfl⟩
theorem c3 : Try.prog.cellsOf 3 = 1 := by kernel_rfl
theorem c4 : Try.prog.cellsOf 4 = 1 := by kernel_rfl
theorem c23 : Try.prog.cellsOf 23 = 1 := by kernel_rfl
theorem c27 : Try.prog.cellsOf 27 = 1 := by kernel_rfl
theorem c29 : Try.prog.cellsOf 29 = 1 := by kernel_rfl
theorem c31 : Try.prog.cellsOf 31 = 5 := by kernel_rfl
theorem c34 : Try.prog.cellsOf 34 = 4 := by kernel_rfl
theorem c37 : Try.prog.cellsOf 37 = 4 := by kernel_rfl
theorem c39 : Try.prog.cellsOf 39 = 3 := by kernel_rfl
theorem c46 : Try.prog.cellsOf 46 = 16 := by kernel_rfl

section
variable {H : Type} {enc : TypeId × Value → H} {W : World} {base : Nat} {spare : Nat → Bool} {held : Bool}

theorem due_of {m : Nat} {cs : List Value} {y : DataW H × List MemPlace} (h : DataW.trod enc Try.prog W base spare held m 39 cs = some y) : ∃ d : I3, cs = dueV d ∧ True := by
  obtain ⟨xs, n, rfl, rfl, hl, hx, hf⟩ := DataW.trod_struct Try.underlying39 h
  rw [c39] at hl
  obtain ⟨v0, v1, v2, rfl⟩ := list3 hl
  have f0 := hf 0 _ rfl
  have f1 := hf 1 _ rfl
  have f2 := hf 2 _ rfl
  obtain ⟨z0, e0⟩ := fld hx (by decide) f0
  obtain ⟨z1, e1⟩ := fld hx (by decide) f1
  obtain ⟨z2, e2⟩ := fld hx (by decide) f2
  simp [c3, c29] at e0 e1 e2
  obtain ⟨n0, q0, _⟩ := DataW.trod_int Try.underlying29 e0
  obtain ⟨n1, q1, _⟩ := DataW.trod_int Try.underlying3 e1
  obtain ⟨n2, q2, _⟩ := DataW.trod_int Try.underlying29 e2
  simp at q0 q1 q2
  subst q0 q1 q2
  exact ⟨(n0, n1, n2), rfl, trivial⟩

theorem open_dues {fuel n c : Nat} {A : Option Addr} {x : DataW H × List MemPlace} (h : DataW.trod enc Try.prog W base spare held fuel 23 [.slice A n c] = some x) : ∃ bs : List I3, bs.length = n ∧ SR W (fun _ => True) A (duesV bs) := by
  obtain ⟨l, h1, h2, _⟩ := open_rows dueV 3 (fun _ => rfl) (by decide) (fun _ => True) Try.underlying23 c39 (fun _ _ _ h => due_of h) h
  exact ⟨l, h1, h2⟩

theorem call_of {m : Nat} {cs : List Value} {y : DataW H × List MemPlace} (h : DataW.trod enc Try.prog W base spare held m 31 cs = some y) : ∃ c : I5, cs = [.int .i64 c.1, .int .i64 c.2.1, .int .u64 c.2.2.1, .int .u64 c.2.2.2.1, .int .i64 c.2.2.2.2] := by
  obtain ⟨xs, n, rfl, rfl, hl, hx, hf⟩ := DataW.trod_struct Try.underlying31 h
  rw [c31] at hl
  obtain ⟨v0, v1, v2, v3, v4, rfl⟩ := list5 hl
  have f0 := hf 0 _ rfl
  have f1 := hf 1 _ rfl
  have f2 := hf 2 _ rfl
  have f3 := hf 3 _ rfl
  have f4 := hf 4 _ rfl
  obtain ⟨z0, e0⟩ := fld hx (by decide) f0
  obtain ⟨z1, e1⟩ := fld hx (by decide) f1
  obtain ⟨z2, e2⟩ := fld hx (by decide) f2
  obtain ⟨z3, e3⟩ := fld hx (by decide) f3
  obtain ⟨z4, e4⟩ := fld hx (by decide) f4
  simp [c3, c29] at e0 e1 e2 e3 e4
  obtain ⟨n0, q0, _⟩ := DataW.trod_int Try.underlying3 e0
  obtain ⟨n1, q1, _⟩ := DataW.trod_int Try.underlying3 e1
  obtain ⟨n2, q2, _⟩ := DataW.trod_int Try.underlying29 e2
  obtain ⟨n3, q3, _⟩ := DataW.trod_int Try.underlying29 e3
  obtain ⟨n4, q4, _⟩ := DataW.trod_int Try.underlying3 e4
  simp at q0 q1 q2 q3 q4
  subst q0 q1 q2 q3 q4
  exact ⟨(n0, n1, n2, n3, n4), rfl⟩

theorem act_of {m : Nat} {cs : List Value} {y : DataW H × List MemPlace} (h : DataW.trod enc Try.prog W base spare held m 34 cs = some y) : ∃ a : I4, cs = [.int .i64 a.1, .int .u64 a.2.1, .int .i64 a.2.2.1, .int .i64 a.2.2.2] := by
  obtain ⟨xs, n, rfl, rfl, hl, hx, hf⟩ := DataW.trod_struct Try.underlying34 h
  rw [c34] at hl
  obtain ⟨v0, v1, v2, v3, rfl⟩ := list4 hl
  have f0 := hf 0 _ rfl
  have f1 := hf 1 _ rfl
  have f2 := hf 2 _ rfl
  have f3 := hf 3 _ rfl
  obtain ⟨z0, e0⟩ := fld hx (by decide) f0
  obtain ⟨z1, e1⟩ := fld hx (by decide) f1
  obtain ⟨z2, e2⟩ := fld hx (by decide) f2
  obtain ⟨z3, e3⟩ := fld hx (by decide) f3
  simp [c3, c29] at e0 e1 e2 e3
  obtain ⟨n0, q0, _⟩ := DataW.trod_int Try.underlying3 e0
  obtain ⟨n1, q1, _⟩ := DataW.trod_int Try.underlying29 e1
  obtain ⟨n2, q2, _⟩ := DataW.trod_int Try.underlying3 e2
  obtain ⟨n3, q3, _⟩ := DataW.trod_int Try.underlying3 e3
  simp at q0 q1 q2 q3
  subst q0 q1 q2 q3
  exact ⟨(n0, n1, n2, n3), rfl⟩

theorem ans_of {m : Nat} {cs : List Value} {y : DataW H × List MemPlace} (h : DataW.trod enc Try.prog W base spare held m 37 cs = some y) :
    ∃ (e : Int) (ok : Bool) (hn : Int) (A : Option Addr) (n c : Nat), cs = [.int .i64 e, .bool ok, .int .u64 hn, .slice A n c] ∧ wf64 e ∧ ∃ bs : List I3, bs.length = n ∧ SR W (fun _ => True) A (duesV bs) := by
  obtain ⟨xs, n, rfl, rfl, hl, hx, hf⟩ := DataW.trod_struct Try.underlying37 h
  rw [c37] at hl
  obtain ⟨v0, v1, v2, v3, rfl⟩ := list4 hl
  have f0 := hf 0 _ rfl
  have f1 := hf 1 _ rfl
  have f2 := hf 2 _ rfl
  have f3 := hf 3 _ rfl
  obtain ⟨z0, e0⟩ := fld hx (by decide) f0
  obtain ⟨z1, e1⟩ := fld hx (by decide) f1
  obtain ⟨z2, e2⟩ := fld hx (by decide) f2
  obtain ⟨z3, e3⟩ := fld hx (by decide) f3
  simp [c4, c27, c29, c23] at e0 e1 e2 e3
  obtain ⟨n0, q0, _, w0⟩ := DataW.trod_int Try.underlying27 e0
  obtain ⟨n1, q1, _⟩ := DataW.trod_bool Try.underlying4 e1
  obtain ⟨n2, q2, _⟩ := DataW.trod_int Try.underlying29 e2
  simp at q0 q1 q2
  subst q0 q1 q2
  have h3 : ∃ A m c, v3 = .slice A m c := by
    rcases DataW.trod_slice Try.underlying23 e3 with ⟨h, _⟩ | ⟨a, len, cap, _, _, _, _, h, _⟩
    · simp at h; exact ⟨_, _, _, h⟩
    · simp at h; exact ⟨_, _, _, h⟩
  obtain ⟨A, m, c, rfl⟩ := h3
  exact ⟨n0, n1, n2, A, m, c, rfl, w0, open_dues e3⟩

/-- What the walks ask of a note that came in. -/
def OpOk (W : World) (o : OpD) : Prop := wf64 o.kind ∧ wf64 o.thr ∧ wf64 o.ev ∧ wf64 o.err ∧ ∃ bs : List I3, bs.length = o.nb ∧ SR W (fun _ => True) o.Ab (duesV bs)

theorem op_of {m : Nat} {cs : List Value} {y : DataW H × List MemPlace} (h : DataW.trod enc Try.prog W base spare held m 46 cs = some y) : ∃ o : OpD, cs = opV o ∧ OpOk W o := by
  obtain ⟨xs, n, rfl, rfl, hl, hx, hf⟩ := DataW.trod_struct Try.underlying46 h
  rw [c46] at hl
  obtain ⟨v0, v1, v2, v3, v4, v5, v6, v7, v8, v9, v10, v11, v12, v13, v14, v15, rfl⟩ := list16 hl
  have f0 := hf 0 _ rfl
  have f1 := hf 1 _ rfl
  have f2 := hf 2 _ rfl
  have f3 := hf 3 _ rfl
  have f4 := hf 4 _ rfl
  have f5 := hf 5 _ rfl
  obtain ⟨z0, e0⟩ := fld hx (by decide) f0
  obtain ⟨z1, e1⟩ := fld hx (by decide) f1
  obtain ⟨z2, e2⟩ := fld hx (by decide) f2
  obtain ⟨z3, e3⟩ := fld hx (by decide) f3
  obtain ⟨z4, e4⟩ := fld hx (by decide) f4
  obtain ⟨z5, e5⟩ := fld hx (by decide) f5
  simp [c3, c31, c34, c37] at e0 e1 e2 e3 e4 e5
  obtain ⟨n0, q0, _, w0⟩ := DataW.trod_int Try.underlying3 e0
  obtain ⟨n1, q1, _, w1⟩ := DataW.trod_int Try.underlying3 e1
  obtain ⟨n2, q2, _, w2⟩ := DataW.trod_int Try.underlying3 e2
  obtain ⟨c, q3⟩ := call_of e3
  obtain ⟨a, q4⟩ := act_of e4
  obtain ⟨er, ok, hn, A, nb, cb, q5, we, hbs⟩ := ans_of e5
  simp at q0 q1 q2 q3 q4 q5
  obtain ⟨rfl, rfl, rfl, rfl, rfl⟩ := q3
  obtain ⟨rfl, rfl, rfl, rfl⟩ := q4
  obtain ⟨rfl, rfl, rfl, rfl⟩ := q5
  subst q0 q1 q2
  exact ⟨⟨n0, n1, n2, c, a, er, ok, hn, A, nb, cb⟩, rfl, w0, w1, w2, we, hbs⟩

instance : Inhabited OpD := ⟨⟨0, 0, 0, (0, 0, 0, 0, 0), (0, 0, 0, 0), 0, false, 0, none, 0, 0⟩⟩
theorem open_ops {fuel n c : Nat} {A : Option Addr} {x : DataW H × List MemPlace} (h : DataW.trod enc Try.prog W base spare held fuel 22 [.slice A n c] = some x) : ∃ ops : List OpD, ops.length = n ∧ SR W (fun _ => True) A (opsV ops) ∧ ∀ o ∈ ops, OpOk W o :=
  open_rows opV 16 opV_len (by decide) (OpOk W) Try.underlying22 c46 (fun _ _ _ h => op_of h) h
end
end Go.Proofs.Ytlabnbfcjpggeaa
