/- The breaking of patterns at uint64, walked: the range is permuted. -/
import Derived.Test.YtoikjokdabpmoaaSrt4
import Derived.Shelf.SlSortCmp.Xorshift
namespace Go.Proofs.Ytoikjokdabpmoaa
open Go.RowKit Go.Sort Go.Shelf

/-- The shelf's numbers for math/bits.Len, nextPowerOfTwo and xorshift, as this program has them. -/
def bitsR : Go.Shelf.Ren := ⟨fun | 15 => 27 | 28 => 37 | 29 => 38 | 47 => 40 | 48 => 41 | n => n, fun | 39 => 62 | 53 => 73 | 55 => 23 | 66 => 75 | 76 => 81 | n => n, fun | n => n⟩
theorem bits47 : Go.Proofs.SlLaysF0.n47 Try.prog bitsR := {
  mixed := by kernel_rfl,
  f15 := Try.func27.trans (congrArg some (by kernel_rfl)),
  f28 := Try.func37.trans (congrArg some (by kernel_rfl)),
  f29 := Try.func38.trans (congrArg some (by kernel_rfl)),
  f47 := Try.func40.trans (congrArg some (by kernel_rfl)),
  t3 := Try.underlying3, a3 := Try.isAgg3, z3 := Try.sizeOf3, v3 := Try.zeroValue3,
  t4 := Try.underlying4, a4 := Try.isAgg4, z4 := Try.sizeOf4, v4 := Try.zeroValue4,
  t5 := Try.underlying5, a5 := Try.isAgg5, z5 := Try.sizeOf5, v5 := Try.zeroValue5,
  t9 := Try.underlying9, a9 := Try.isAgg9, z9 := Try.sizeOf9, v9 := Try.zeroValue9,
  t39 := Try.underlying62, a39 := Try.isAgg62, z39 := Try.sizeOf62, v39 := Try.zeroValue62,
  t53 := Try.underlying73, a53 := Try.isAgg73, z53 := Try.sizeOf73, v53 := Try.zeroValue73,
  t55 := Try.underlying23, a55 := Try.isAgg23, z55 := Try.sizeOf23, v55 := Try.zeroValue23 }
theorem bits48 : Go.Proofs.SlLaysF0.n48 Try.prog bitsR := {
  mixed := by kernel_rfl,
  f48 := Try.func41.trans (congrArg some (by kernel_rfl)),
  t0 := Try.underlying0, a0 := Try.isAgg0, z0 := Try.sizeOf0, v0 := Try.zeroValue0,
  t39 := Try.underlying62, a39 := Try.isAgg62, z39 := Try.sizeOf62, v39 := Try.zeroValue62,
  t55 := Try.underlying23, a55 := Try.isAgg23, z55 := Try.sizeOf23, v55 := Try.zeroValue23,
  t66 := Try.underlying75, a66 := Try.isAgg75, z66 := Try.sizeOf75, v66 := Try.zeroValue75,
  t76 := Try.underlying81, a76 := Try.isAgg81, z76 := Try.sizeOf81, v76 := Try.zeroValue81 }
theorem npt_u (n : Nat) (hn : n ≤ 1000) (w : World) : Calls Try.prog 40 #[.int .i64 n] w fun e w' => e = .returned (.int .u64 ((1 <<< bitsLen n : Nat) : Int)) ∧ w' = w :=
  AnyF.nextPowerOfTwo bits47 n (by omega) w
theorem next_u (c X : Nat) (hX : X < 18446744073709551616) (w : World) (h1 : w.cell? ⟨c, 0, none⟩ = some (.int .u64 X)) (h2 : w.frozen? ⟨c, 0, none⟩ = false) :
    Calls Try.prog 41 #[.pointer (some ⟨c, 0, none⟩)] w fun e w' => e = .returned (.int .u64 (xorNextN X : Nat)) ∧ w' = (w.setCell ⟨c, 0, none⟩ (.int .u64 (xorNextN X : Nat))).drewN 3 :=
  AnyF.xorshift_Next bits48 c 0 X hX w h1 h2
theorem len_u (n : Nat) (hn : n ≤ 1000) (w : World) : Calls Try.prog 27 #[.int .u64 (n : Int)] w fun e w' => e = .returned (.int .i64 (bitsLen n : Nat)) ∧ w' = w := by
  have h := Any.bits_Len (SlLaysF0.n15.bits (P := Try.prog) (ρ := bitsR) { bits47 with }) (n : Int) w (by omega) (by omega)
  rw [Int.toNat_natCast, bitLen_eq _ (by omega)] at h
  exact h

theorem heap_two {w : World} {c g o1 o2 : Nat} {v1 v2 : Value} {o : Obj} (h : w.heap[c]? = some o) (hne : c ≠ g) : (((w.setCell ⟨g, o1, none⟩ v1).setCell ⟨g, o2, none⟩ v2).drew).heap[c]? = some o :=
  ((Below.heap_setCell _ ⟨g, o2, none⟩ v2 c hne).trans (Below.heap_setCell w ⟨g, o1, none⟩ v1 c hne)).trans h
def Perm2 (w : World) (g off a b : Nat) (d : Array Int) (e : Ending) (w' : World) : Prop := e = .returned (.tuple #[]) ∧ ∃ d', PermIn a b d d' ∧ Rw w g off d' w'

set_option maxHeartbeats 8000000 in
set_option maxRecDepth 100000 in
theorem break_u (g off cap n a b : Nat) (d : Array Int) (w : World) (hH : Holds encU w g off d) (hd : d.size = n) (hab : a + 12 < b) (hb : b ≤ n) (hn : n ≤ 1000) :
    Calls Try.prog 30 #[.slice (some ⟨g, off, none⟩) n cap, .int .i64 a, .int .i64 b] w (Perm2 w g off a b d) := by
  have hst := rw_start hH (by omega)
  obtain ⟨L, hL⟩ : ∃ L, L = b - a := ⟨_, rfl⟩
  have eL : (b : Int) - (a : Int) = (L : Int) := by omega
  obtain ⟨M, hM⟩ : ∃ M : Nat, M = 1 <<< bitsLen L := ⟨_, rfl⟩
  have hM1 : 1 ≤ M := by rw [hM, Nat.one_shiftLeft]; exact Nat.two_pow_pos _
  have hM2 : M ≤ 2 * L := by rw [hM, Nat.one_shiftLeft]; exact two_pow_bitsLen_le (by omega)
  have hNP : ∀ W, Calls Try.prog 40 #[.int .i64 (L : Int)] W fun e w' => e = .returned (.int .u64 (M : Int)) ∧ w' = W := by rw [hM]; exact fun W => npt_u L (by omega) W
  have h8 : (8 : Int) ≤ (L : Int) := by omega
  have hLb : L ≤ 1000 ∧ a + L ≤ b ∧ 12 < L := by omega
  obtain ⟨Q, hQ⟩ : ∃ Q, Q = L / 4 * 2 := ⟨_, rfl⟩
  have hQb : 1 ≤ Q ∧ Q + 2 ≤ L := by omega
  have eQ1 : (L : Int) / 4 * 2 ≤ (Q : Int) := by omega
  have eQ2 : (Q : Int) ≤ (L : Int) / 4 * 2 := by omega
  have EL := Lib.hid eL
  have HD := Lib.hid hd
  have HL := Lib.hid hL
  clear eL hd hM hL hQ
  go_enter Try.func30, Try.ntmps30
  go_wp2_with fail
  simp only [EL.out]
  refine (hNP _).mono ?_
  rintro e w' ⟨rfl, rfl⟩
  go_wp2_with fail
  obtain ⟨W0, hW0⟩ : ∃ W0, W0 = w.alloc (Obj.cells #[Value.int IntKind.u64 (L : Int)] 75) := ⟨_, rfl⟩
  have hb0 : W0.heap[w.heap.size]? = some (.cells #[.int .u64 ((L : Nat) : Int)] 75 (0, 0)) := by rw [hW0]; exact heap_alloc_new w _
  have hr0 : Rw w g off d W0 := by rw [hW0]; exact rw_alloc hst _
  rw [← hW0]
  clear hW0
  have hgl := rw_lt hst
  go_loopw [9] (fun v9 wr => ∃ (x X : Nat) (dk : Array Int), v9 = .int .i64 x ∧ a + Q ≤ x + 1 ∧ x ≤ a + Q + 2 ∧ X < 18446744073709551616 ∧ Hid (dk.size = n) ∧ Hid (PermIn a b d dk) ∧ Rw w g off dk wr ∧ Hid (wr.heap[w.heap.size]? = some (.cells #[.int .u64 ((X : Nat) : Int)] 75 (0, 0)))) (fun v9 _ => a + Q + 2 - (intOf v9).toNat)
  case atStart => exact ⟨a + Q - 1, L, d, by congr 1; omega, by omega, by omega, by omega, HD, Lib.hid (permIn_refl d a b), hr0, Lib.hid hb0⟩
  case round =>
    obtain ⟨x, X, dk, rfl, hx1, hx2, lX, Hs, HP, hR, HB⟩ := hrel
    by_cases hlt : x ≤ a + Q + 1
    · obtain ⟨R', hR'⟩ : ∃ R' : Nat, R' = xorNextN X := ⟨_, rfl⟩
      have lR' : R' < 18446744073709551616 := by rw [hR']; exact xorNextN_lt X lX
      obtain ⟨O, hO⟩ : ∃ O : Nat, O = R' &&& (M - 1) := ⟨_, rfl⟩
      have lO : O ≤ M - 1 := by rw [hO]; exact Nat.and_le_right
      have eAnd : bits .and .u64 (R' : Int) ((M : Int) - 1) = (O : Int) := by
        rw [show ((M : Int) - 1) = ((M - 1 : Nat) : Int) from by omega, bits_and_u64_nat _ _ lR' (by omega), hO]
      have k1 := cell_of_row wr w.heap.size 0 _ 75 (0, 0) HB.out
      have k2 : wr.frozen? ⟨w.heap.size, 0, none⟩ = false := by simp [World.frozen?, HB.out]
      have hNext := next_u w.heap.size X lX wr k1 k2
      rw [← hR'] at hNext
      obtain ⟨W2, hW2⟩ : ∃ W2, W2 = (wr.setCell ⟨w.heap.size, 0, none⟩ (.int .u64 (R' : Nat))).drewN 3 := ⟨_, rfl⟩
      have hR2 : Rw w g off dk W2 := by rw [hW2]; exact rw_drewN (rw_new hR (p := ⟨w.heap.size, 0, none⟩) (Nat.le_refl _) _) _
      have hB2 : W2.heap[w.heap.size]? = some (.cells #[.int .u64 ((R' : Nat) : Int)] 75 (0, 0)) := by
        rw [hW2]
        have := set_same wr w.heap.size 0 (.int .u64 (R' : Nat)) HB.out
        simpa using this
      rw [← hW2] at hNext
      obtain ⟨G, HG, hc, hf⟩ := rw_fam hR2 hH Hs.out HD.out
      have HB2 := Lib.hid hB2
      have hsz2 := hR2.1.size
      clear hW2 hR' hO hB2 k1 k2
      go_wp2_with fail
      refine hNext.mono ?_
      rintro e w' ⟨rfl, rfl⟩
      go_wp2_with fail
      · have hLO : L ≤ O := by assumption
        clear eAnd
        have hOb : a + (O - L) < a + L := by omega
        have s1 : IntKind.i64.wrap ((a : Int) + ((O : Int) - (L : Int))) = (a : Int) + ((O : Int) - (L : Int)) := IntWalk.i64_in _ (by omega)
        have s2 : (0 : Int) ≤ (a : Int) + ((O : Int) - (L : Int)) := by omega
        have s3 : (a : Int) + ((O : Int) - (L : Int)) < (n : Int) := by omega
        by_cases hEq : x = a + (O - L)
        · have s4 : ((a : Int) + ((O : Int) - (L : Int))).toNat = x := by omega
          have HE := Lib.hid hEq
          clear hEq
          go_region
          all_goals go_wp2_with fail
          clear s1 s2 s3 s4
          go_roundw
          case rel => exact ⟨x + 1, R', swp dk x (x), by go_num, by omega, by omega, lR', Lib.hid (by rw [size_swp]; exact Hs.out), Lib.hid (permIn_trans _ _ _ a b HP.out (swp_permIn dk a b x (x) (by omega) (by omega) (by omega) (by omega) (by have := Hs.out; omega))), rw_drew (rw_swapG HG Hs hR2 x (x) (by omega) (by omega) rfl rfl), Lib.hid (heap_two HB2.out (by omega))⟩
          case measure => simp [intOf]; omega
        · have s4 : ((a : Int) + ((O : Int) - (L : Int))).toNat = a + (O - L) := by omega
          go_region
          all_goals go_wp2_with fail
          clear s1 s2 s3 s4
          go_roundw
          case rel => exact ⟨x + 1, R', swp dk x (a + (O - L)), by go_num, by omega, by omega, lR', Lib.hid (by rw [size_swp]; exact Hs.out), Lib.hid (permIn_trans _ _ _ a b HP.out (swp_permIn dk a b x (a + (O - L)) (by omega) (by omega) (by omega) (by omega) (by have := Hs.out; omega))), rw_drew (rw_swapG HG Hs hR2 x (a + (O - L)) (by omega) (by omega) rfl rfl), Lib.hid (heap_two HB2.out (by omega))⟩
          case measure => simp [intOf]; omega
      · have hLO : ¬ L ≤ O := by assumption
        clear eAnd
        have hOb : a + (O) < a + L := by omega
        have s1 : IntKind.i64.wrap ((a : Int) + ((O : Int))) = (a : Int) + ((O : Int)) := IntWalk.i64_in _ (by omega)
        have s2 : (0 : Int) ≤ (a : Int) + ((O : Int)) := by omega
        have s3 : (a : Int) + ((O : Int)) < (n : Int) := by omega
        by_cases hEq : x = a + (O)
        · have s4 : ((a : Int) + ((O : Int))).toNat = x := by omega
          have HE := Lib.hid hEq
          clear hEq
          go_region
          all_goals go_wp2_with fail
          clear s1 s2 s3 s4
          go_roundw
          case rel => exact ⟨x + 1, R', swp dk x (x), by go_num, by omega, by omega, lR', Lib.hid (by rw [size_swp]; exact Hs.out), Lib.hid (permIn_trans _ _ _ a b HP.out (swp_permIn dk a b x (x) (by omega) (by omega) (by omega) (by omega) (by have := Hs.out; omega))), rw_drew (rw_swapG HG Hs hR2 x (x) (by omega) (by omega) rfl rfl), Lib.hid (heap_two HB2.out (by omega))⟩
          case measure => simp [intOf]; omega
        · have s4 : ((a : Int) + ((O : Int))).toNat = a + (O) := by omega
          go_region
          all_goals go_wp2_with fail
          clear s1 s2 s3 s4
          go_roundw
          case rel => exact ⟨x + 1, R', swp dk x (a + (O)), by go_num, by omega, by omega, lR', Lib.hid (by rw [size_swp]; exact Hs.out), Lib.hid (permIn_trans _ _ _ a b HP.out (swp_permIn dk a b x (a + (O)) (by omega) (by omega) (by omega) (by omega) (by have := Hs.out; omega))), rw_drew (rw_swapG HG Hs hR2 x (a + (O)) (by omega) (by omega) rfl rfl), Lib.hid (heap_two HB2.out (by omega))⟩
          case measure => simp [intOf]; omega
    · obtain rfl : x = a + Q + 2 := by omega
      go_wp2_with fail
      go_end0
      exact ⟨rfl, dk, HP.out, hR⟩
end Go.Proofs.Ytoikjokdabpmoaa
