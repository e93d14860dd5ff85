/- What came in, as the walks read it: a slice of acts, each with its time. -/
import Derived.Test.YtoikjokdabpmoaaRf1
import Derived.Deep.Slices
import Derived.Deep.Fields
import Derived.ChangeSame
import Derived.OpenShut
namespace Go.Proofs.Ytoikjokdabpmoaa
open Go.ChangeShapes Go.WideShapes Go.Deep

theorem addr_of_cell {w : World} {a : Addr} {v : Value} (h : w.cell? a = some v) : ∃ b off, a = ⟨b, off, none⟩ := by
  obtain ⟨b, off, f⟩ := a
  obtain rfl : f = none := by simpa using World.cell?_spot h
  exact ⟨b, off, rfl⟩

section
variable {H : Type} {enc : TypeId × Value → H} {P : Program} {W : World} {base : Nat} {spare : Nat → Bool} {held : Bool}

/-- A slice of rows, opened: it reads as a list. -/
theorem open_rows {α : Type} [Inhabited α] (f : α → List Value) (k : Nat) (hk : ∀ x, (f x).length = k) (hk0 : 0 < k) (Pr : α → Prop) {t e : TypeId} {fuel n c : Nat} {A : Option Addr} {x : DataW H × List MemPlace}
    (ht : P.underlying t = some (.slice e)) (hC : P.cellsOf e = k) (hel : ∀ m cs y, DataW.trod enc P W base spare held m e cs = some y → ∃ o, cs = f o ∧ Pr o)
    (h : DataW.trod enc P W base spare held fuel t [.slice A n c] = some x) : ∃ l : List α, l.length = n ∧ SR W (fun _ => True) A (l.flatMap f) ∧ ∀ o ∈ l, Pr o := by
  rcases open_slice ht h with ⟨hcs, _⟩ | ⟨a, len, cap, m, n', D, Pl, hcs, _, hl, _, hm, _, hi⟩
  · simp at hcs
    obtain ⟨rfl, rfl, rfl⟩ := hcs
    exact ⟨[], rfl, SR.nil _ _ _, by simp⟩
  · simp at hcs
    obtain ⟨rfl, rfl, rfl⟩ := hcs
    have hm' : n ≤ m := by rw [hm]; split <;> omega
    have hx : ∀ i, i < n → ∃ o, Pr o ∧ ∀ j, j < k → W.cell? ((a.add (i * k)).add j) = (f o)[j]? := fun i hin => by
      obtain ⟨cs', hc, hd⟩ := hi i (by omega)
      rw [hC] at hc
      obtain ⟨o, rfl, ho⟩ := hel _ _ _ hd
      exact ⟨o, ho, (World.cells?_some hc).2.2⟩
    let g : Nat → α := fun i => if h : i < n then (hx i h).choose else default
    have hg : ∀ i, i < n → Pr (g i) ∧ ∀ j, j < k → W.cell? ((a.add (i * k)).add j) = (f (g i))[j]? := fun i h => by
      simp only [g, dif_pos h]
      exact (hx i h).choose_spec
    refine ⟨(List.range n).map g, by simp, fun hn => ?_, fun o ho => ?_⟩
    · rw [flat_length f k hk] at hn
      simp at hn
      have hn0 : 0 < n := by rcases Nat.eq_zero_or_pos n with h | h; (subst h; simp at hn); exact h
      obtain ⟨v0, hv0⟩ : ∃ v, (f (g 0))[0]? = some v := ⟨_, List.getElem?_eq_getElem (by rw [hk]; exact hk0)⟩
      have h0 := ((hg 0 hn0).2 0 hk0).trans hv0
      obtain ⟨b, off, ha⟩ := addr_of_cell h0
      have ha0 : a = ⟨b, off, none⟩ := by rw [← ha]; simp [Addr.add]
      subst ha0
      refine ⟨b, off, rfl, trivial, ?_, fun j v hj => ?_⟩
      · have h := World.block_lt_of_cell? W _ h0
        simpa [Addr.add] using h
      · have hjl := (List.getElem?_eq_some_iff.1 hj).1
        rw [flat_length f k hk] at hjl
        simp at hjl
        have hq : j / k < n := (Nat.div_lt_iff_lt_mul hk0).2 hjl
        have hr : j % k < k := Nat.mod_lt _ hk0
        have hj' : j / k * k + j % k = j := by rw [Nat.mul_comm]; exact Nat.div_add_mod j k
        have hf := flat_at f k hk ((List.range n).map g) (j / k) (g (j / k)) (by rw [List.getElem?_map, List.getElem?_range hq]; rfl) (j % k) hr
        rw [hj', hj] at hf
        have hc := (hg (j / k) hq).2 (j % k) hr
        rw [← hf, add_plain', add_plain', Nat.add_assoc, hj'] at hc
        exact hc
    · obtain ⟨i, hi', rfl⟩ := List.mem_map.1 ho
      exact (hg i (List.mem_range.1 hi')).1

/-- A struct's field. -/
theorem fld {xs : List (DataW H × List MemPlace)} {k i : Nat} {y : Option (DataW H × List MemPlace)} (hx : xs.length = k) (hi : i < k) (h : y = xs[i]?) : ∃ z, y = some z := ⟨_, h.trans (List.getElem?_eq_getElem (hx ▸ hi))⟩
end

theorem list4 {α : Type} {l : List α} (h : l.length = 4) : ∃ v0 v1 v2 v3, l = [v0, v1, v2, v3] :=
  match l, h with
  | [v0, v1, v2, v3], _ => ⟨v0, v1, v2, v3, rfl⟩
theorem list2 {α : Type} {l : List α} (h : l.length = 2) : ∃ v0 v1, l = [v0, v1] :=
  match l, h with
  | [v0, v1], _ => ⟨v0, v1, rfl⟩
theorem list5 {α : Type} {l : List α} (h : l.length = 5) : ∃ v0 v1 v2 v3 v4, l = [v0, v1, v2, v3, v4] :=
  match l, h with
  | [v0, v1, v2, v3, v4], _ => ⟨v0, v1, v2, v3, v4, rfl⟩
theorem c3 : Try.prog.cellsOf 3 = 1 := by kernel_rfl
theorem c23 : Try.prog.cellsOf 23 = 1 := by kernel_rfl
theorem c28 : Try.prog.cellsOf 28 = 4 := by kernel_rfl
theorem c30 : Try.prog.cellsOf 30 = 5 := by kernel_rfl

/-- An act and its time, as they come in. -/
structure OpM where
  k : Int
  h : Int
  dl : Int
  st : Int
  now : Int
abbrev opM (o : OpM) : List Value := [.int .i64 o.k, .int .u64 o.h, .int .i64 o.dl, .int .i64 o.st, .int .i64 o.now]
abbrev opsM (l : List OpM) : List Value := l.flatMap opM
def OpOk (o : OpM) : Prop := wfU o.h ∧ (Lit.int .i64 o.dl).wf = true

section
variable {H : Type} {enc : TypeId × Value → H} {W : World} {base : Nat} {spare : Nat → Bool} {held : Bool}
theorem act_of {m : Nat} {cs : List Value} {y : DataW H × List MemPlace} (h : DataW.trod enc Try.prog W base spare held m 28 cs = some y) : ∃ k h dl st : Int, cs = [.int .i64 k, .int .u64 h, .int .i64 dl, .int .i64 st] ∧ wfU h ∧ (Lit.int .i64 dl).wf = true := by
  obtain ⟨xs, n, rfl, rfl, hl, hx, hf⟩ := DataW.trod_struct Try.underlying28 h
  rw [c28] at hl
  obtain ⟨v0, v1, v2, v3, rfl⟩ := list4 hl
  have f0 := hf 0 _ rfl
  have f1 := hf 1 _ rfl
  have f2 := hf 2 _ rfl
  have f3 := hf 3 _ rfl
  obtain ⟨z0, e0⟩ := fld hx (by decide) f0
  obtain ⟨z1, e1⟩ := fld hx (by decide) f1
  obtain ⟨z2, e2⟩ := fld hx (by decide) f2
  obtain ⟨z3, e3⟩ := fld hx (by decide) f3
  simp [c3, c23] at e0 e1 e2 e3
  obtain ⟨n0, q0, _⟩ := DataW.trod_int Try.underlying3 e0
  obtain ⟨n1, q1, _, w1⟩ := DataW.trod_int Try.underlying23 e1
  obtain ⟨n2, q2, _, w2⟩ := DataW.trod_int Try.underlying3 e2
  obtain ⟨n3, q3, _⟩ := DataW.trod_int Try.underlying3 e3
  simp at q0 q1 q2 q3
  subst q0 q1 q2 q3
  exact ⟨n0, n1, n2, n3, rfl, w1, w2⟩

theorem op_of {m : Nat} {cs : List Value} {y : DataW H × List MemPlace} (h : DataW.trod enc Try.prog W base spare held m 30 cs = some y) : ∃ o : OpM, cs = opM o ∧ OpOk o := by
  obtain ⟨xs, n, rfl, rfl, hl, hx, hf⟩ := DataW.trod_struct Try.underlying30 h
  rw [c30] at hl
  obtain ⟨v0, v1, v2, v3, v4, rfl⟩ := list5 hl
  have f0 := hf 0 _ rfl
  have f1 := hf 1 _ rfl
  obtain ⟨z0, e0⟩ := fld hx (by decide) f0
  obtain ⟨z1, e1⟩ := fld hx (by decide) f1
  simp [c3, c28] at e0 e1
  obtain ⟨k, hh, dl, st, q0, w1, w2⟩ := act_of e0
  obtain ⟨n1, q1, _⟩ := DataW.trod_int Try.underlying3 e1
  simp at q0 q1
  obtain ⟨rfl, rfl, rfl, rfl⟩ := q0
  subst q1
  exact ⟨⟨k, hh, dl, st, n1⟩, rfl, w1, w2⟩
instance : Inhabited OpM := ⟨⟨0, 0, 0, 0, 0⟩⟩
theorem open_ops {fuel n c : Nat} {A : Option Addr} {x : DataW H × List MemPlace} (h : DataW.trod enc Try.prog W base spare held fuel 22 [.slice A n c] = some x) : ∃ ops : List OpM, ops.length = n ∧ SR W (fun _ => True) A (opsM ops) ∧ ∀ o ∈ ops, OpOk o :=
  open_rows opM 5 (fun _ => rfl) (by decide) OpOk Try.underlying22 c30 (fun _ _ _ h => op_of h) h
end
end Go.Proofs.Ytoikjokdabpmoaa
