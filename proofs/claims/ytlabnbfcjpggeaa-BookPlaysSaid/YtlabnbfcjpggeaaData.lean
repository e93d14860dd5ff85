/- A book, as it lies in memory, and what it holds. -/
import Derived.Test.YtlabnbfcjpggeaaProg
import Derived.Test.YtlabnbfcjpggeaaMem
import Derived.WalkKit
import Derived.KernelRfl
namespace Go.Proofs.Ytlabnbfcjpggeaa
open Go.RowKit Go.Maps

/-- A call, a timer told, an act: their numbers. -/
abbrev I5 := Int × Int × Int × Int × Int
abbrev I3 := Int × Int × Int
abbrev I4 := Int × Int × Int × Int
def callV (c : I5) : List Value := [.int .i64 c.1, .int .i64 c.2.1, .int .u64 c.2.2.1, .int .u64 c.2.2.2.1, .int .i64 c.2.2.2.2]
def actV (a : I4) : List Value := [.int .i64 a.1, .int .u64 a.2.1, .int .i64 a.2.2.1, .int .i64 a.2.2.2]
def dueV (d : I3) : List Value := [.int .u64 d.1, .int .i64 d.2.1, .int .u64 d.2.2]
def actsV (l : List I4) : List Value := l.flatMap actV
def duesV (l : List I3) : List Value := l.flatMap dueV

structure Rec where
  thr : Int
  call : I5
  beg : Int
  fin : Int
  done : Bool
  err : Int
  ok : Bool
  hnd : Int
  batch : List I3
  acts : List I4

/-- Where a record's two lists lie. -/
structure RH where
  Ab : Option Addr
  cb : Nat
  Aa : Option Addr
  ca : Nat

def bSl (p : RH × Rec) : Value := .slice p.1.Ab p.2.batch.length p.1.cb
def aSl (p : RH × Rec) : Value := .slice p.1.Aa p.2.acts.length p.1.ca
def recV (p : RH × Rec) : List Value :=
  [.int .i64 p.2.thr, .int .i64 p.2.call.1, .int .i64 p.2.call.2.1, .int .u64 p.2.call.2.2.1, .int .u64 p.2.call.2.2.2.1, .int .i64 p.2.call.2.2.2.2, .int .i64 p.2.beg, .int .i64 p.2.fin, .bool p.2.done, .int .i64 p.2.err, .bool p.2.ok, .int .u64 p.2.hnd, bSl p, aSl p]
def recsV (L : List (RH × Rec)) : List Value := L.flatMap recV

theorem flat_length {α : Type} (f : α → List Value) (k : Nat) (hk : ∀ x, (f x).length = k) (l : List α) : (l.flatMap f).length = l.length * k := by
  induction l with
  | nil => simp
  | cons x l ih => rw [List.flatMap_cons, List.length_append, hk, ih, List.length_cons, Nat.succ_mul, Nat.add_comm]
theorem flat_at {α : Type} (f : α → List Value) (k : Nat) (hk : ∀ x, (f x).length = k) (l : List α) (i : Nat) (x : α) (hx : l[i]? = some x) (j : Nat) (hj : j < k) : (l.flatMap f)[i * k + j]? = (f x)[j]? := by
  induction l generalizing i with
  | nil => simp at hx
  | cons y l ih =>
    rw [List.flatMap_cons]
    cases i with
    | zero => simp at hx; subst hx; rw [Nat.zero_mul, Nat.zero_add, List.getElem?_append_left (by rw [hk]; exact hj)]
    | succ i =>
      simp at hx
      rw [List.getElem?_append_right (by rw [hk, Nat.succ_mul]; omega), hk, show (i + 1) * k + j - k = i * k + j from by rw [Nat.succ_mul]; omega]
      exact ih i hx
theorem flat_set {α : Type} (f : α → List Value) (k : Nat) (hk : ∀ x, (f x).length = k) (l : List α) (i : Nat) (x y : α) (hx : l[i]? = some x) (j : Nat) (v : Value) (hj : j < k) (hy : f y = (f x).set j v) : (l.set i y).flatMap f = (l.flatMap f).set (i * k + j) v := by
  induction l generalizing i with
  | nil => simp at hx
  | cons z l ih =>
    cases i with
    | zero =>
      simp at hx
      subst hx
      rw [List.set_cons_zero, List.flatMap_cons, List.flatMap_cons, hy, Nat.zero_mul, Nat.zero_add, List.set_append_left _ _ (by rw [hk]; exact hj)]
    | succ i =>
      simp at hx
      rw [List.set_cons_succ, List.flatMap_cons, List.flatMap_cons, ih i hx, List.set_append_right _ _ (by rw [hk, Nat.succ_mul]; omega), hk, show (i + 1) * k + j - k = i * k + j from by rw [Nat.succ_mul]; omega]
theorem recV_len (p : RH × Rec) : (recV p).length = 14 := rfl
theorem actV_len (a : I4) : (actV a).length = 4 := rfl
theorem dueV_len (a : I3) : (dueV a).length = 3 := rfl
theorem recsV_len (L : List (RH × Rec)) : (recsV L).length = L.length * 14 := flat_length _ 14 recV_len L
theorem actsV_len (l : List I4) : (actsV l).length = l.length * 4 := flat_length _ 4 actV_len l
theorem duesV_len (l : List I3) : (duesV l).length = l.length * 3 := flat_length _ 3 dueV_len l
theorem recsV_app (a b : List (RH × Rec)) : recsV (a ++ b) = recsV a ++ recsV b := by simp [recsV]
theorem actsV_app (a b : List I4) : actsV (a ++ b) = actsV a ++ actsV b := by simp [actsV]
theorem one_flat {α : Type} (f : α → List Value) (h : ∀ x, ∀ v ∈ f x, v.oneCell' = true) (l : List α) : ∀ v ∈ l.flatMap f, v.oneCell' = true := fun v hv => by
  rw [List.mem_flatMap] at hv
  obtain ⟨x, _, hx⟩ := hv
  exact h x v hx
theorem recsV_one (L : List (RH × Rec)) : ∀ v ∈ recsV L, v.oneCell' = true := one_flat _ (fun p v hv => by simp [recV, bSl, aSl] at hv; rcases hv with rfl | rfl | rfl | rfl | rfl | rfl | rfl | rfl | rfl | rfl | rfl | rfl | rfl | rfl <;> rfl) L
theorem actsV_one (l : List I4) : ∀ v ∈ actsV l, v.oneCell' = true := one_flat _ (fun p v hv => by simp [actV] at hv; rcases hv with rfl | rfl | rfl | rfl <;> rfl) l
theorem duesV_one (l : List I3) : ∀ v ∈ duesV l, v.oneCell' = true := one_flat _ (fun p v hv => by simp [dueV] at hv; rcases hv with rfl | rfl | rfl <;> rfl) l

/-- The record at place i is a thread's, and under way. -/
def Und (l : List Rec) (t : Int) (i : Nat) : Prop := ∃ r, l[i]? = some r ∧ r.thr = t ∧ r.done = false
abbrev wf64 (t : Int) : Prop := (Lit.int .i64 t).wf = true
def open_ (l : List Rec) : Nat := (l.filter fun r => !r.done).length

/-- The map reads as the threads under way. -/
def Good (D : DataW Unit) (l : List Rec) : Prop :=
  (∀ t, wf64 t → (Maps.has D (.int .i64 t) = true ↔ ∃ i, Und l t i)) ∧ (∀ t i, wf64 t → Und l t i → D.atKey (.int .i64 t) (.lit (.int .i64 0)) = .lit (.int .i64 i)) ∧ Maps.size D = open_ l

def MapU (w : World) (bm : Nat) (l : List Rec) : Prop :=
  ∃ D, w.ownsMap (H := Unit) Try.prog 3 (plainElem Try.prog 3) bm l.length D ∧ Good D l ∧ ∀ r ∈ l, wf64 r.thr

/-- A book: its two fields, its row of records, its map, and the records' lists; its blocks are of F. -/
structure BookAt (w : World) (F : Nat → Prop) (bp bm : Nat) (Al : Option Addr) (cl : Nat) (L : List (RH × Rec)) : Prop where
  fields : w.heap[bp]? = some (.cells #[.slice Al L.length cl, .map (some bm)] 61 (0, 0))
  row : w.ownsRow 0 44 14 (.slice Al L.length cl) L.length (recsV L)
  map : MapU w bm (L.map (·.2))
  batch : ∀ p ∈ L, w.ownsRow 0 39 3 (bSl p) p.2.batch.length (duesV p.2.batch)
  acts : ∀ p ∈ L, w.ownsRow 0 34 4 (aSl p) p.2.acts.length (actsV p.2.acts)
  apart : ∀ (i j : Nat) (p q : RH × Rec), L[i]? = some p → L[j]? = some q → ∀ g, (aSl p).ownBlock = some g → (aSl q).ownBlock = some g → i = j
  fb : F bp
  fm : F bm
  fr : ∀ g, (Value.slice Al L.length cl).ownBlock = some g → F g
  fs : ∀ p ∈ L, (∀ g, (bSl p).ownBlock = some g → F g) ∧ ∀ g, (aSl p).ownBlock = some g → F g

theorem map_upd {F : Nat → Prop} {w w' : World} (hu : Upd F w w') {bm n : Nat} {k : TypeId} {R : Value → Option (DataW Unit × List MemPlace)} {D : DataW Unit} (h : w.ownsMap Try.prog k R bm n D) (hF : ¬ F bm) : w'.ownsMap Try.prog k R bm n D := by
  obtain ⟨es, clock, hb, h2⟩ := h
  exact ⟨es, clock, hu.heap hb hF, h2⟩
theorem BookAt.upd {w w' : World} {F F' : Nat → Prop} {bp bm : Nat} {Al : Option Addr} {cl : Nat} {L : List (RH × Rec)} (h : BookAt w F bp bm Al cl L) (hu : Upd F' w w') (hd : ∀ k, k < w.heap.size → F k → ¬ F' k) : BookAt w' F bp bm Al cl L := by
  have hbp : bp < w.heap.size := (Array.getElem?_eq_some_iff.1 h.fields).1
  obtain ⟨D, hm, hg, ht⟩ := h.map
  exact { fields := hu.heap h.fields (hd _ hbp h.fb)
          row := own_upd hu h.row (fun g e => hd g (own_lt h.row e) (h.fr g e))
          map := ⟨D, map_upd hu hm (hd _ hm.lt h.fm), hg, ht⟩
          batch := fun p hp => own_upd hu (h.batch p hp) (fun g e => hd g (own_lt (h.batch p hp) e) ((h.fs p hp).1 g e))
          acts := fun p hp => own_upd hu (h.acts p hp) (fun g e => hd g (own_lt (h.acts p hp) e) ((h.fs p hp).2 g e))
          apart := h.apart, fb := h.fb, fm := h.fm, fr := h.fr, fs := h.fs }
theorem BookAt.below {w w' : World} {F : Nat → Prop} {bp bm : Nat} {Al : Option Addr} {cl : Nat} {L : List (RH × Rec)} (h : BookAt w F bp bm Al cl L) (hb : Below w.heap.size w w') : BookAt w' F bp bm Al cl L :=
  h.upd (Upd.of_below (fun _ => False) hb) (fun _ _ _ => id)
theorem BookAt.mono {w : World} {F F' : Nat → Prop} {bp bm : Nat} {Al : Option Addr} {cl : Nat} {L : List (RH × Rec)} (h : BookAt w F bp bm Al cl L) (hF : ∀ k, F k → F' k) : BookAt w F' bp bm Al cl L :=
  { h with fb := hF _ h.fb, fm := hF _ h.fm, fr := fun g e => hF g (h.fr g e), fs := fun p hp => ⟨fun g e => hF g ((h.fs p hp).1 g e), fun g e => hF g ((h.fs p hp).2 g e)⟩ }

end Go.Proofs.Ytlabnbfcjpggeaa
