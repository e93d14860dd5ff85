/- A key that a map lacks, stored in two steps: the entry is laid, its value stored behind. -/
import Derived.Test.YtoikjokdabpmoaaData
import Derived.WideKeyEntry
namespace Go.Proofs.Ytoikjokdabpmoaa
open Go.RowKit Go.Maps Go.WideElems Go.ChangeMaps Go.MapKept

theorem setBlock_upd {w : World} {b : Nat} (o : Obj) : Upd (· = b) w (setBlock w b o) :=
  ⟨rfl, rfl, rfl, by simp [setBlock], fun k hk hn => by simp [setBlock, Ne.symm hn]⟩
theorem setBlock_at {w : World} {b : Nat} (h : b < w.heap.size) (o : Obj) : (setBlock w b o).heap[b]? = some o := by
  simp [setBlock, h]

theorem entry_new {w : World} {b n : Nat} {D : DataW Unit} (hm : MapAt w b n D) (hn : n < maxLen) {h : Int} (hh : wfU h) (hno : Maps.has D (.int .u64 h) = false) (c : Int) :
    ∃ (st : Nat) (wE wS : World), (Instr.mapEntry 42 (.map (some b)) (.int .u64 h)).run Try.prog w = .ok (.tuple #[.agg #[.int .i64 0], .int .i64 st]) wE ∧
      (Instr.entryStore 42 (.map (some b)) (.int .i64 st) (.agg #[.int .i64 c])).run Try.prog wE = .ok () wS ∧
      MapAt wS b (n + 1) (D.put (.int .u64 h) (.lit (.int .i64 c))) ∧ Upd (· = b) w wE ∧ Upd (· = b) w wS := by
  have hkey : keyOf Try.prog 23 (.int .u64 h) = some (.int .u64 h) := keyOf_int_mk (P := Try.prog) Try.underlying23 hh
  obtain ⟨w', hrun, hm', ht⟩ := hm.store lawU Try.underlying42 hn hkey (everR_mk c)
  have hlt := hm.lt
  obtain ⟨es, clock, hb, F, hs, hD⟩ := hm
  have habs : ∀ x ∈ es.toList, x.key ≠ .int .u64 h := by
    rcases Maps.fit_look true lawU Try.underlying42 (zeroE w) hb F hkey with ⟨_, h2, _⟩ | ⟨e0, y, he, hk, _, hy, hat, _⟩
    · exact h2
    · exfalso
      have := has_true_of_atKey (D := D) (k := .int .u64 h) (y := y.1) (fun z => by rw [hD]; exact hat z)
      rw [hno] at this
      cases this
  have hfind : (Instr.findKey 23 (.int .u64 h) es.toList).run Try.prog w = .ok none w := by
    rcases lawU.find w hkey es.toList F.keys with ⟨h1, _⟩ | ⟨j, e, _, h2, h3⟩
    · exact h1
    · exact absurd h3 (habs e (List.mem_of_getElem? h2))
  obtain ⟨s1, s2, _⟩ := F.stamped
  have hb2 : (setBlock w b (.map (es.push ⟨.int .u64 h, .agg #[.int .i64 0], clock⟩) (clock + 1))).heap[b]? = some (.map (es.push ⟨.int .u64 h, .agg #[.int .i64 0], clock⟩) (clock + 1)) := setBlock_at hlt _
  have hss : ∀ o : Obj, setBlock (setBlock w b (.map (es.push ⟨.int .u64 h, .agg #[.int .i64 0], clock⟩) (clock + 1))) b o = setBlock w b o := fun o => by
    simp [setBlock]
  have hE : (Instr.mapEntry 42 (.map (some b)) (.int .u64 h)).run Try.prog w = .ok (.tuple #[.agg #[.int .i64 0], .int .i64 clock]) (setBlock w b (.map (es.push ⟨.int .u64 h, .agg #[.int .i64 0], clock⟩) (clock + 1))) := by
    simp [Instr.mapEntry, run_underlying Try.underlying42, MapKept.run_getObj_map hb, lawU.check w false hkey, hfind, MapKept.run_setObj_map _ hb, Result.andThen, setBlock, goInt]
  have hU : Upd (· = b) w (setBlock w b (.map (es.push ⟨.int .u64 h, .agg #[.int .i64 0], clock⟩) (clock + 1))) := setBlock_upd _
  obtain ⟨wE, hwE⟩ : ∃ x, x = setBlock w b (.map (es.push ⟨.int .u64 h, .agg #[.int .i64 0], clock⟩) (clock + 1)) := ⟨_, rfl⟩
  rw [← hwE] at hb2 hE hss hU
  refine ⟨clock, wE, setBlock w b (.map (es.push ⟨.int .u64 h, .agg #[.int .i64 c], clock⟩) (clock + 1)), hE, ?_, ?_, hU, setBlock_upd _⟩
  · have hidx : (es.push ⟨.int .u64 h, .agg #[.int .i64 0], clock⟩).findIdx? (fun e => ((e.born : Nat) : Int) == ((clock : Nat) : Int)) = some es.size := by
      rw [findIdx_arr]
      have := findIdx_born (l := (es.push ⟨.int .u64 h, .agg #[.int .i64 0], clock⟩).toList) (j := es.size) (e0 := ⟨.int .u64 h, .agg #[.int .i64 0], clock⟩) (by
        simp only [Array.toList_push, List.map_append, List.map_cons, List.map_nil]
        refine List.nodup_append.2 ⟨s2, by simp, fun a ha c hc e1 => ?_⟩
        simp only [List.mem_singleton] at hc
        obtain ⟨x, hx, rfl⟩ := List.mem_map.1 ha
        have := s1 x hx
        omega) (by simp)
      exact this
    have hmod : (es.push ⟨.int .u64 h, .agg #[.int .i64 0], clock⟩).modify es.size (fun e => { e with val := .agg #[.int .i64 c] }) = es.push ⟨.int .u64 h, .agg #[.int .i64 c], clock⟩ := by
      apply Array.ext'
      rw [Array.toList_modify, Array.toList_push, Array.toList_push, ← Array.length_toList, modify_last]
    rw [← hss]
    simp [Instr.entryStore, MapKept.run_getObj_map hb2, asInt, asIntOf, hidx, hmod, MapKept.run_setObj_map _ hb2, Result.andThen, setBlock]
  · have e1 : (Instr.mapUpdate 42 (.map (some b)) (.int .u64 h) (.agg #[.int .i64 c])).run Try.prog w = .ok () (setBlock w b (.map (es.push ⟨.int .u64 h, .agg #[.int .i64 c], clock⟩) (clock + 1))) := by
      simp [Instr.mapUpdate, run_underlying Try.underlying42, MapKept.run_getObj_map hb, lawU.check w false hkey, hfind, MapKept.run_setObj_map _ hb, Result.andThen, setBlock]
    rw [e1] at hrun
    injection hrun with _ hw
    rw [hw]
    exact hm'

/-- A key struck from the map. -/
theorem drop_any {w : World} {b n : Nat} {D : DataW Unit} (hm : MapAt w b n D) {h : Int} (hh : wfU h) (ty : TypeId) :
    ∃ w', (Builtin.delete_ #[42, 23] ty #[.map (some b), .int .u64 h]).run Try.prog w = .ok (.tuple #[]) w' ∧ MapAt w' b n (D.del (.int .u64 h)) ∧ Upd (· = b) w w' := by
  obtain ⟨w', hrun, hm', ht⟩ := hm.drop lawU Try.underlying42 (keyOf_int_mk (P := Try.prog) Try.underlying23 hh) ty
  exact ⟨w', hrun, hm', by obtain ⟨es, clock, es', clock', _, rfl⟩ := ht; exact setBlock_upd _⟩
end Go.Proofs.Ytoikjokdabpmoaa
