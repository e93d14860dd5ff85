/- OrderSorted, walked: it answers true. -/
import Derived.Test.YtkoohcineokpcaaTells
import Derived.Lib.QuietBelow
namespace Go.Proofs.Ytkoohcineokpcaa
open Go.RowKit

/-! ### Plain: of sorted keys as many stand ahead of a key's first place as are less. -/
theorem cnt_srt (l : List (Int × Int)) (x : Int × Int) : cnt l x = cnt (srt l) x := ((srt_perm l).countP_eq _).symm
theorem cnt_at' (S : List (Int × Int)) (hp : S.Pairwise (fun a b => lek a b = true)) (i : Nat) (hi : i < S.length) (hf : ∀ h : 0 < i, S[i - 1] ≠ S[i]) : cnt S S[i] = i := by
  have hs := List.pairwise_iff_getElem.1 hp
  unfold cnt
  have e : S = S.take i ++ S.drop i := (List.take_append_drop i S).symm
  have h1 : (S.take i).countP (fun y => decide (ck y S[i] < 0)) = i := by
    rw [List.countP_eq_length.2, List.length_take]
    · omega
    · intro y hy
      obtain ⟨j, hj, rfl⟩ := List.mem_iff_getElem.1 hy
      have hji : j < i := by rw [List.length_take] at hj; omega
      rw [List.getElem_take]
      show ltk S[j] S[i] = true
      have hle : lek S[j] S[i - 1] = true := by
        rcases Nat.lt_or_ge j (i - 1) with h | h
        · exact hs j (i - 1) (by omega) (by omega) h
        · have e : j = i - 1 := by omega
          subst e
          exact lek_refl _
      have hle2 : lek S[i - 1] S[i] = true := hs (i - 1) i (by omega) hi (by omega)
      have hne := hf (by omega)
      rw [lek_iff] at hle hle2
      rw [ltk_iff']
      have hne' : ¬ (S[i - 1].1 = S[i].1 ∧ S[i - 1].2 = S[i].2) := fun h => hne (Prod.ext h.1 h.2)
      omega
  have h2 : (S.drop i).countP (fun y => decide (ck y S[i] < 0)) = 0 := by
    rw [List.countP_eq_zero]
    intro y hy
    obtain ⟨j, hj, rfl⟩ := List.mem_iff_getElem.1 hy
    have hij : i + j < S.length := by rw [List.length_drop] at hj; omega
    rw [List.getElem_drop]
    show ¬ ltk S[i + j] S[i] = true
    have hle : lek S[i] S[i + j] = true := by
      rcases Nat.eq_zero_or_pos j with h | h
      · subst h; exact lek_refl _
      · exact hs i (i + j) hi (by rw [List.length_drop] at hj; omega) (by omega)
    rw [lek_iff] at hle
    rw [ltk_iff']
    omega
  calc S.countP (fun y => decide (ck y S[i] < 0)) = (S.take i ++ S.drop i).countP (fun y => decide (ck y S[i] < 0)) := by rw [← e]
    _ = i := by rw [List.countP_append, h1, h2]; rfl
theorem cnt_at (l : List (Int × Int)) (i : Nat) (hi : i < (srt l).length) (hf : ∀ h : 0 < i, (srt l)[i - 1] ≠ (srt l)[i]) : cnt l (srt l)[i] = i :=
  (cnt_srt l _).trans (cnt_at' (srt l) (srt_sorted l) i hi hf)
theorem ck_sorted (S : List (Int × Int)) (hp : S.Pairwise (fun a b => lek a b = true)) (i : Nat) (hi : i + 1 < S.length) (hne : S[i] ≠ S[i + 1]) : ck S[i] S[i + 1] = -1 := by
  have hle := List.pairwise_iff_getElem.1 hp i (i + 1) (by omega) hi (by omega)
  rw [lek_iff] at hle
  have hne' : ¬ (S[i].1 = S[i + 1].1 ∧ S[i].2 = S[i + 1].2) := fun h => hne (Prod.ext h.1 h.2)
  exact ck_of_lt (a1 := S[i].1) (a2 := S[i].2) (b1 := S[i + 1].1) (b2 := S[i + 1].2) (by omega)

/-- append of a slice of keys, nil or not, onto a row of the call's own. -/
theorem run_append_keys {w : World} {base n : Nat} {v : Value} {xs : List Value} (ty : TypeId) (hown : w.ownsRow base 24 2 v n xs) (A : Option Addr) (c : Nat) (ks : List (Int × Int)) {B : Nat} (hk : KS w B A ks) (hn : n + ks.length ≤ 1000000) (hbase : base ≤ w.heap.size) :
    ∃ v' w', (Builtin.append_ #[28, 28] ty #[v, .slice A ks.length c]).run Try.prog w = .ok v' w' ∧ w'.ownsRow base 24 2 v' (n + ks.length) (xs ++ kcells ks) ∧ w.grownBy w' v.ownBlock ∧ (v'.ownBlock = v.ownBlock ∨ v'.ownBlock = some w.heap.size) := by
  obtain ⟨i0, hi0, hz0, hz1, hz2⟩ := info_parts info24
  rcases A with _ | ad
  · have h0 : ks = [] := by
      rcases Nat.eq_zero_or_pos ks.length with h | h
      · exact List.eq_nil_of_length_eq_zero h
      · obtain ⟨b, off, e, _⟩ := hk h; cases e
    subst h0
    refine ⟨v, w, ?_, by simpa [kcells] using hown, World.grownBy.refl w _, .inl rfl⟩
    rcases hown.2 with ⟨rfl, rfl⟩ | ⟨g, cap, cur, rfl, _, _, hnc, _⟩
    · simp [Builtin.append_, run_underlying Try.underlying28, sizeOf, typeInfo, hi0, Builtin.lenOf, Builtin.firstCells]
    · simp [Builtin.append_, run_underlying Try.underlying28, sizeOf, typeInfo, hi0, Builtin.lenOf, Builtin.firstCells, hnc, storeCells]
  · obtain ⟨v', w', h1, h2, h3, _, h5⟩ := run_append_own_at (P := Try.prog) w base 28 ty 24 i0 _ 2 16 Try.underlying28 hi0 hz0 hz1 hz2 rfl (by decide) v n xs hown ad ks.length c (kcells ks) (kcells_length ks) (news_of_KS hk) (kcells_one ks) (by simp only [maxLen]; omega) (by omega) hbase
    exact ⟨v', w', h1, h2, h3, h5⟩

theorem wpList_append_keys {w : World} {ops : Array Oper} {rest : List Oper} {o : Oper} {a : Act} {Q : Exit → Act → World → Prop} (hgd : o.guard = none) (s x : Operand)
    (ho : o.op = .call { callee := .builtin .append, args := #[s, x], argTypes := #[28, 28] }) {base n : Nat} {v : Value} {xs : List Value} (hs : a.eval s = v) (hown : w.ownsRow base 24 2 v n xs)
    (A : Option Addr) (c : Nat) (ks : List (Int × Int)) {B : Nat} (hx : a.eval x = .slice A ks.length c) (hk : KS w B A ks) (hn : n + ks.length ≤ 1000000) (hbase : base ≤ w.heap.size)
    (h : ∀ v' w', w'.ownsRow base 24 2 v' (n + ks.length) (xs ++ kcells ks) → w.grownBy w' v.ownBlock → (v'.ownBlock = v.ownBlock ∨ v'.ownBlock = some w.heap.size) → wpList Try.prog ops Q rest (a.put o.dst v') w') : wpList Try.prog ops Q (o :: rest) a w := by
  refine wpList_plain hgd fun K hK => ?_
  obtain ⟨v', w', hr, h2, h3, h4⟩ := run_append_keys o.type hown A c ks hk hn hbase
  unfold Oper.wp execOp
  simp only [ho, resolve, invoke, builtin, Sem.run_bind, Sem.run_pure, Result.andThen_ok, List.map_toArray, List.map_cons, List.map_nil, hs, hx, hr]
  exact hK _ _ (h v' w' h2 h3 h4)

theorem keep2 {w0 w w' : World} {b o : Nat} {u0 u1 : Value} (h : w.cell? ⟨b, o, none⟩ = some u0 ∧ w.cell? ⟨b, o + 1, none⟩ = some u1 ∧ b < w.heap.size ∧ Below w0.heap.size w0 w) (hg : Below w.heap.size w w') :
    w'.cell? ⟨b, o, none⟩ = some u0 ∧ w'.cell? ⟨b, o + 1, none⟩ = some u1 ∧ b < w'.heap.size ∧ Below w0.heap.size w0 w' := by
  obtain ⟨h0, h1, h2, h3⟩ := h
  exact ⟨(hg.cell (p := ⟨b, o, none⟩) h2).trans h0, (hg.cell (p := ⟨b, o + 1, none⟩) h2).trans h1, Nat.lt_of_lt_of_le h2 hg.size, h3.trans (hg.mono h3.size)⟩
theorem below2 {w0 w : World} {b o : Nat} {u0 u1 : Value} (h : w.cell? ⟨b, o, none⟩ = some u0 ∧ w.cell? ⟨b, o + 1, none⟩ = some u1 ∧ b < w.heap.size ∧ Below w0.heap.size w0 w) : Below w0.heap.size w0 w := h.2.2.2

theorem srt_ex (ks : List (Int × Int)) : ∃ S, S = srt ks ∧ S.length = ks.length ∧ S.Pairwise (fun a b => lek a b = true) ∧ ∀ (i : Nat) (hi : i < S.length), (∀ h : 0 < i, S[i - 1] ≠ S[i]) → cnt ks S[i] = i :=
  ⟨_, rfl, srt_length ks, srt_sorted ks, cnt_at ks⟩
theorem Sort_is {S : List (Int × Int)} (A : Option Addr) (c : Nat) (ks : List (Int × Int)) (w : World) (hn : ks.length ≤ 1000) (hk : KS w w.heap.size A ks) (hS : S = srt ks) : Calls Try.prog 8 #[.slice A ks.length c] w (OwnKeys w S) := by
  subst hS
  exact Sort_any A c ks w hn hk

set_option maxRecDepth 100000 in
set_option maxHeartbeats 8000000 in
theorem sorted_any (A : Option Addr) (c : Nat) (ks : List (Int × Int)) (w : World) (hn : ks.length ≤ 200) (hk : KS w w.heap.size A ks) :
    Calls Try.prog 4 #[.slice A ks.length c] w fun e w' => e = .returned (.bool true) ∧ Below w.heap.size w w' := by
  have hd : ¬ (200 : Int) < (ks.length : Int) := by omega
  obtain ⟨S, hS, hlen, hs, hc⟩ := srt_ex ks
  have HS := Lib.hid hS
  have Hlen := Lib.hid hlen
  have Hs := Lib.hid hs
  have Hc := Lib.hid hc
  have hle1 : S.length ≤ ks.length := by rw [hlen]; exact Nat.le_refl _
  have hle2 : ks.length ≤ S.length := by rw [hlen]; exact Nat.le_refl _
  clear hlen hS hs hc
  have hlb : ((S.length : Int) != (ks.length : Int)) = false := by rw [Hlen.out]; simp
  have hownA := World.ownsRow_made (e := 24) (size := 2) w #[] 0 (Nat.le_refl _) (by simp [maxLen]) rfl
  have hkA : KS (w.alloc (.cells #[] 24)) w.heap.size A ks := hk.below ((Below.refl _ _).alloc (Nat.le_refl _) _)
  go_enter Try.func4, Try.ntmps4
  go_wp2_with (at_builtin; refine wpList_append_keys rfl (.tmp 10) (.tmp 11) rfl rfl hownA A c ks rfl hkA (by omega) (by simp) ?_; intro v1 w1 hown1 hg1 hat1; obtain ⟨A1, c1, rfl⟩ := own_form hown1)
  rw [Nat.zero_add, List.nil_append] at hown1
  have hb1 : Below w.heap.size w w1 := ((Below.refl _ _).alloc (Nat.le_refl _) _).grown hg1 (by simp) (fun k hk => by injection hk with hk; subst hk; exact Nat.le_refl _)
  have hkW := KS.of_own hown1
  clear hown1 hg1 hat1 hkA hownA
  refine (Sort_is A c ks w1 (by omega) ((hk.below hb1).more hb1.size) HS.out).mono ?_
  rintro e w2 ⟨A2, c2, rfl, hown2, hb2⟩
  have hkS := KS.of_own hown2
  have hkW2 := (hkW.below hb2).more hb2.size
  have hb12 := hb1.trans (hb2.mono hb1.size)
  clear hown2 hkW hb2
  go_wp2_with fail
  have hsame : decide (ks = ks) = true := by simp
  refine (Same_any A1 A c1 c ks ks w2 (by omega) (by omega) hkW2 ((hk.below hb12).more hb12.size)).mono ?_
  rintro e w3 ⟨rfl, hb3⟩
  have hkS3 := (hkS.below hb3).more hb3.size
  have hb13 := hb12.trans (hb3.mono hb12.size)
  rw [hsame]
  clear hkS hkW2 hb3 hb12 hsame
  go_wp2_with fail
  go_loopw [5] (fun v5 wr => ∃ i : Nat, i ≤ S.length ∧ v5 = .int .i64 i ∧ Below w3.heap.size w3 wr) (fun v5 _ => S.length - (intOf v5).toNat)
  case atStart => exact ⟨0, Nat.zero_le _, rfl, Below.refl _ _⟩
  case round =>
    obtain ⟨i, hil, rfl, hbl⟩ := hrel
    have hbls := hbl.size
    have hb13s := hb13.size
    by_cases hlt : i < S.length
    · obtain ⟨b, off, rfl, hb, hcs⟩ := hkS3.below hbl (by omega)
      obtain ⟨hx1, hx2⟩ := hcs i S[i] (List.getElem?_eq_getElem hlt)
      have hbw := hb13.trans (hbl.mono hb13.size)
      have hkw := (hk.below hbw).more hbw.size
      have P := fun W (hW : Below wr.heap.size wr W) => Place_any A c ks S[i].1 S[i].2 W (by omega) ((hkw.below hW).more hW.size)
      rcases Nat.eq_zero_or_pos i with h0 | h0
      · subst h0
        have hd1 : decide ((0 : Int) < 0) = false := rfl
        have hcnt := Hc.out 0 hlt (fun h => absurd h (by omega))
        have hcn : cnt ks (S[0].1, S[0].2) = 0 := hcnt
        rw [hcn] at P
        clear hcnt hcn
        have hi1 : (0 : Int) < (S.length : Int) := by omega
        rw [Nat.zero_mul, Nat.add_zero] at hx1
        rw [Nat.zero_mul, Nat.add_zero] at hx2
        have cP := fun d os => Calls.regrown_of (P _ (below_regrown wr d os))
        have q1 := cell_regrown hx1
        have q2 := cell_regrown hx2
        clear hx1 hx2
        go_wp2_with fail
        refine wp_region_quiet_below (by kernel_rfl) (by kernel_rfl) ?_
        repeat (go_big_quiet_step (exact cP _ _))
        refine wpQuiet_nil ?_
        intro _ hw'
        obtain ⟨⟨dq, osq⟩, hw''⟩ := hw'
        subst hw''
        have hbq := hbl.trans ((below_regrown wr dq osq).mono hbls)
        go_wp2_with fail
        go_roundw
        case rel => exact ⟨0 + 1, by omega, by go_num, hbq⟩
        case measure => simp [intOf]; omega
      · obtain ⟨j, rfl⟩ : ∃ j, i = j + 1 := ⟨i - 1, by omega⟩
        obtain ⟨hy1, hy2⟩ := hcs j S[j] (List.getElem?_eq_getElem (by omega))
        clear hcs
        have hj0 : (0 : Int) ≤ (j : Int) := Int.natCast_nonneg _
        have hj1 : (j : Int) + 1 < (S.length : Int) := by omega
        have hj2 : (j : Int) < (S.length : Int) := by omega
        have hl1 : (S.length : Int) ≤ 1000 := by omega
        have hd1 : decide ((0 : Int) < (j : Int) + 1) = true := decide_eq_true (by omega)
        have hd2 : ((j : Int) + 1 == 0) = false := beq_eq_false_iff_ne.2 (by omega)
        have hw1 : IntKind.i64.wrap (j : Int) = (j : Int) := IntWalk.i64_in _ (by omega)
        have hw2 : IntKind.i64.wrap ((j : Int) + 1) = (j : Int) + 1 := IntWalk.i64_in _ (by omega)
        have hw3 : ((j : Int) + 1).toNat = j + 1 := by omega
        have hw4 : (0 : Int) ≤ (j : Int) + 1 := by omega
        have E := ne_key S[j].1 S[j].2 S[j + 1].1 S[j + 1].2
        have G := keyGuard
        have q1 := cell_regrown hx1
        have q2 := cell_regrown hx2
        have q3 := cell_regrown hy1
        have q4 := cell_regrown hy2
        clear hx1 hx2 hy1 hy2
        by_cases heq : S[j] = S[j + 1]
        · have C := fun W => Cmp_is (x1 := S[j].1) (x2 := S[j].2) (y1 := S[j + 1].1) (y2 := S[j + 1].2) (r := 0) (by rw [heq]; unfold ck f1; rw [c3_eq, c3_eq]; rfl) W
          rw [show (!(S[j].1 == S[j + 1].1 && S[j].2 == S[j + 1].2)) = false by simp [heq]] at E
          clear heq P
          have cC := fun d os => Calls.regrown_of ((C (Sort.grow (redrawn wr d) os)).mono fun _ _ h => ⟨h.1, h.2.below⟩)
          go_wp2_with fail
          refine wp_region_quiet_below (by kernel_rfl) (by kernel_rfl) ?_
          repeat (go_big_quiet_step (exact cC _ _))
          refine wpQuiet_nil ?_
          intro _ hw'
          obtain ⟨⟨dq, osq⟩, hw''⟩ := hw'
          subst hw''
          have hbq := hbl.trans ((below_regrown wr dq osq).mono hbls)
          go_wp2_with fail
          go_roundw
          case rel => exact ⟨(j + 1) + 1, by omega, by go_num, hbq⟩
          case measure => simp [intOf]; omega
        · have C := fun W => Cmp_is (x1 := S[j].1) (x2 := S[j].2) (y1 := S[j + 1].1) (y2 := S[j + 1].2) (r := -1) (ck_sorted S Hs.out j hlt heq) W
          rw [show (!(S[j].1 == S[j + 1].1 && S[j].2 == S[j + 1].2)) = true by
            by_cases h1 : S[j].1 = S[j + 1].1
            · have h2 : S[j].2 ≠ S[j + 1].2 := fun h2 => heq (Prod.ext h1 h2)
              simp [h1, h2]
            · simp [h1]] at E
          have hcn : cnt ks (S[j + 1].1, S[j + 1].2) = j + 1 := Hc.out (j + 1) hlt (fun _ => heq)
          rw [hcn] at P
          clear heq hcn
          have hd3 : ((j : Int) + 1 != (j : Int) + 1) = false := by simp
          have cC := fun d os => Calls.regrown_of ((C (Sort.grow (redrawn wr d) os)).mono fun _ _ h => ⟨h.1, h.2.below⟩)
          have cP := fun d os => Calls.regrown_of (P _ (below_regrown wr d os))
          go_wp2_with fail
          refine wp_region_quiet_below (by kernel_rfl) (by kernel_rfl) ?_
          repeat (go_big_quiet_step (first | exact cP _ _ | exact cC _ _))
          refine wpQuiet_nil ?_
          intro _ hw'
          obtain ⟨⟨dq, osq⟩, hw''⟩ := hw'
          subst hw''
          have hbq := hbl.trans ((below_regrown wr dq osq).mono hbls)
          go_wp2_with fail
          go_roundw
          case rel => exact ⟨(j + 1) + 1, by omega, by go_num, hbq⟩
          case measure => simp [intOf]; omega
    · go_wp2_with fail
      refine (awake_any _).mono ?_
      rintro e w4 ⟨rfl, hg4⟩
      go_wp2_with fail
      go_ret
      exact ⟨rfl, (hb13.trans (hbl.mono hb13.size)).trans (hg4.below.mono (by omega))⟩

end Go.Proofs.Ytkoohcineokpcaa
