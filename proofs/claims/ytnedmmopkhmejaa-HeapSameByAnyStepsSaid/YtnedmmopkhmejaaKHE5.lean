/- Walk: HeapSameByAnySteps. -/
import Derived.Test.YtnedmmopkhmejaaKHE3
import Derived.Great.BuildSlice
set_option linter.unusedVariables false
set_option linter.unusedSimpArgs false
namespace Go.Proofs.Ytnedmmopkhmejaa
open Go.RowKit Go.Proofs.Hp
attribute [local go_sem] Oper.semAt_some

theorem build1 (w : World) (a b c d : Int) : (Instr.buildSlice 62 1 #[(0, .agg #[.int .i64 a, .int .i64 b, .int .i64 c, .int .i64 d])]).run Try.prog w = .ok (.slice (some ⟨w.heap.size, 0, none⟩) 1 1) (w.alloc (.cells #[.int .i64 a, .int .i64 b, .int .i64 c, .int .i64 d] 78)) := by
  obtain ⟨i0, hi, hz0, hz1, hz2⟩ := info_parts Try.infoAct
  exact run_buildSlice w 62 78 1 _ _ i0 _ Try.underlying62 hi hz0 (by rw [hz1]; decide) (by rw [hz1]; decide) (by rw [hz1]; kernel_rfl)
theorem build2 (w : World) (a b c d a' b' c' d' : Int) : (Instr.buildSlice 62 2 #[(0, .agg #[.int .i64 a, .int .i64 b, .int .i64 c, .int .i64 d]), (1, .agg #[.int .i64 a', .int .i64 b', .int .i64 c', .int .i64 d'])]).run Try.prog w = .ok (.slice (some ⟨w.heap.size, 0, none⟩) 2 2) (w.alloc (.cells #[.int .i64 a, .int .i64 b, .int .i64 c, .int .i64 d, .int .i64 a', .int .i64 b', .int .i64 c', .int .i64 d'] 78)) := by
  obtain ⟨i0, hi, hz0, hz1, hz2⟩ := info_parts Try.infoAct
  exact run_buildSlice w 62 78 2 _ _ i0 _ Try.underlying62 hi hz0 (by rw [hz1]; decide) (by rw [hz1]; decide) (by rw [hz1]; kernel_rfl)
section
open Instr
theorem wpList_b1 {ops : Array Oper} {rest : List Oper} {o : Oper} {a : Act} {w : World} {Q : Exit → Act → World → Prop} (hg : o.guard = none) (x : Operand) (ho : o.op = .buildSlice 62 1 #[(0, x)]) {i j k l : Int} (hx : a.eval x = .agg #[.int .i64 i, .int .i64 j, .int .i64 k, .int .i64 l]) (N : Nat) (hN : w.heap.size = N)
    (h : wpList Try.prog ops Q rest (a.put o.dst (.slice (some ⟨N, 0, none⟩) 1 1)) (w.alloc (.cells #[.int .i64 i, .int .i64 j, .int .i64 k, .int .i64 l] 78))) : wpList Try.prog ops Q (o :: rest) a w := by
  subst hN
  refine wpList_plain hg fun _ hK => ?_
  unfold Oper.wp execOp
  simp only [ho, Sem.run_bind, List.map_toArray, List.map_cons, List.map_nil, hx, build1, Result.andThen_ok]
  exact hK _ _ h
theorem wpList_b2 {ops : Array Oper} {rest : List Oper} {o : Oper} {a : Act} {w : World} {Q : Exit → Act → World → Prop} (hg : o.guard = none) (x y : Operand) (ho : o.op = .buildSlice 62 2 #[(0, x), (1, y)]) {i j k l i' j' k' l' : Int} (hx : a.eval x = .agg #[.int .i64 i, .int .i64 j, .int .i64 k, .int .i64 l]) (hy : a.eval y = .agg #[.int .i64 i', .int .i64 j', .int .i64 k', .int .i64 l']) (N : Nat) (hN : w.heap.size = N)
    (h : wpList Try.prog ops Q rest (a.put o.dst (.slice (some ⟨N, 0, none⟩) 2 2)) (w.alloc (.cells #[.int .i64 i, .int .i64 j, .int .i64 k, .int .i64 l, .int .i64 i', .int .i64 j', .int .i64 k', .int .i64 l'] 78))) : wpList Try.prog ops Q (o :: rest) a w := by
  subst hN
  refine wpList_plain hg fun _ hK => ?_
  unfold Oper.wp execOp
  simp only [ho, Sem.run_bind, List.map_toArray, List.map_cons, List.map_nil, hx, hy, build2, Result.andThen_ok]
  exact hK _ _ h
end
theorem still_false {k : Int} (h : Pl.still k = false) : (k != 7) = false ∨ ((k != 7) = true ∧ (k != 8) = false) ∨ ((k != 7) = true ∧ (k != 8) = true ∧ (k != 9) = false) := by
  unfold Pl.still at h
  cases h1 : k != 7
  · exact .inl rfl
  · cases h2 : k != 8
    · exact .inr (.inl ⟨rfl, rfl⟩)
    · rw [h1, h2] at h
      exact .inr (.inr ⟨rfl, rfl, by simpa using h⟩)
theorem still_true {k : Int} (h : Pl.still k = true) : (k != 7) = true ∧ (k != 8) = true ∧ (k != 9) = true := by
  unfold Pl.still at h
  simp only [Bool.and_eq_true] at h
  exact h


set_option maxRecDepth 100000 in
set_option maxHeartbeats 8000000 in
theorem c_HeapSameByAnySteps (w : World) (D : Nat → Prop) (v : Value) (ss : List (List Bool)) (h : ShRep w D v ss) (hD : ∀ k, D k → k < w.heap.size) (half young : Int) (hh : 0 ≤ half ∧ half ≤ 65535) (hy : 0 ≤ young ∧ young ≤ 65535)
    (rt : Int) (hrt : 0 ≤ rt ∧ rt ≤ 255) (E : Nat → Prop) (av : Value) (xs : List (Int × Int × Int × Int)) (hx : ActsAt w E av xs) (hE : ∀ k, E k → k < w.heap.size) (hwf : ∀ x ∈ xs, x.2.1 ≤ 9223372036854775807) :
    Calls Try.prog 6 #[v, .int .u16 half, .int .u16 young, .int .u8 rt, av] w fun e w' => e = .returned (.bool true) ∧ Below w.heap.size w w' := by
  have hshH := Lib.hid h
  have hxH := Lib.hid hx
  have hwfH := Lib.hid hwf
  have hDH := Lib.hid hD
  have hEH := Lib.hid hE
  obtain ⟨i0, hi⟩ : ∃ i0, Hid (Try.prog.info? 78 = some i0 ∧ i0.zero = some (.agg #[.int .i64 0, .int .i64 0, .int .i64 0, .int .i64 0]) ∧ i0.size = 4 ∧ i0.bytes = 32) := by
    obtain ⟨i0, hi, hz0, hz1, hz2⟩ := info_parts Try.infoAct
    exact ⟨i0, Lib.hid ⟨hi, hz0, hz1, hz2⟩⟩
  obtain ⟨p, cap, rfl, -⟩ := h
  obtain ⟨ap, acap, rfl, hcx⟩ := hx
  have hcxH := Lib.hid hcx
  have hlg := c_light w D _ ss hshH.out ap xs.length acap
  clear hwf hD hE hcx
  cases hle : lightE ss xs.length with
  | false =>
    rw [hle] at hlg
    clear hle
    go_enter Try.func6, Try.ntmps6
    go_wp2_with (fail)
    refine hlg.mono ?_
    rintro e w1 ⟨rfl, rfl⟩
    go_wp2_with (fail)
    refine (c_sanity _).mono ?_
    rintro e w2 ⟨rfl, hb⟩
    go_wp2
    go_ret
    exact ⟨rfl, hb⟩
  | true =>
    rw [hle] at hlg
    obtain ⟨l8, l300, l70⟩ := light_of hle
    have l70H := Lib.hid l70
    clear hle l70
    have hsc := c_spaces w half young hh hy
    generalize hH' : 1 + half.toNat % 600 = H at hsc
    generalize hY' : 1 + young.toNat % 100 = Y at hsc
    have hH0 : Hid (0 < H ∧ H ≤ 600) := Lib.hid (by omega)
    have hY0 : Hid (0 < Y ∧ Y ≤ 100) := Lib.hid (by omega)
    obtain ⟨n, hn⟩ : ∃ n : Nat, (n : Int) = rt % 21 := ⟨(rt % 21).toNat, by omega⟩
    have hn0 : Hid (n ≤ 20) := Lib.hid (by omega)
    have hnH := Lib.hid hn
    clear hH' hY' hh hy hn
    go_enter Try.func6, Try.ntmps6
    go_wp2_with (fail)
    refine hlg.mono ?_
    rintro e w1 ⟨rfl, rfl⟩
    go_wp2_with (fail)
    refine hsc.mono ?_
    rintro e w2 ⟨rfl, rfl⟩
    clear hlg hsc
    rename World => w
    go_wp2_with (fail)
    go_loopw [14, 15, 43] (fun v1 v2 i wr => ∃ (k : Nat) (q1 : Option Addr) (c1 : Nat) (q2 : Option Addr) (c2 : Nat), v1 = .slice q1 (Pl.anyActs (xs.take k) 1).length c1 ∧ v2 = .slice q2 (Pl.anyActs (xs.take k) 2).length c2 ∧ i = .int .i64 k ∧ k ≤ xs.length ∧
      AR w.heap.size wr (.slice q1 (Pl.anyActs (xs.take k) 1).length c1) (.slice q2 (Pl.anyActs (xs.take k) 2).length c2) (Pl.anyActs (xs.take k) 1) (Pl.anyActs (xs.take k) 2) ∧ Below w.heap.size w wr) (fun _ _ i _ => xs.length - (intOf i).toNat)
    case atStart => exact ⟨0, none, 0, none, 0, rfl, rfl, rfl, by omega, AR.nil _ _, Below.refl _ _⟩
    case round =>
      obtain ⟨k, q1, c1, q2, c2, rfl, rfl, rfl, hk, hAR, hBw⟩ := hrel
      by_cases hlt : k < xs.length
      · obtain ⟨x, hxk⟩ : ∃ x, xs[k]? = some x := ⟨xs[k], List.getElem?_eq_getElem hlt⟩
        obtain ⟨b, o, rfl, z0, z1, z2, z3⟩ : ∃ b o, ap = some ⟨b, o, none⟩ ∧ wr.cell? ⟨b, o + k * 4, none⟩ = some (.int .i64 x.1) ∧ wr.cell? ⟨b, o + k * 4 + 1, none⟩ = some (.int .i64 x.2.1) ∧ wr.cell? ⟨b, o + k * 4 + 2, none⟩ = some (.int .i64 x.2.2.1) ∧ wr.cell? ⟨b, o + k * 4 + 3, none⟩ = some (.int .i64 x.2.2.2) := by
          rcases hcxH.out with e | ⟨b, o, hp, hEb, hc⟩
          · rw [e] at hlt; simp at hlt
          · obtain ⟨y0, y1, y2, y3⟩ := hc k x hxk
            have f := Fr.of_below (S := fun _ => False) (w := w) (w' := wr) hBw
            exact ⟨b, o, hp, f.cell y0 id, f.cell y1 id, f.cell y2 id, f.cell y3 id⟩
        obtain ⟨x0, x1, x2, x3⟩ := x
        simp only at z0 z1 z2 z3
        have hxkH := Lib.hid hxk
        have hARa := hAR.fr ((Fr.refl (fun _ => False) wr).alloc (.cells #[.int .i64 x0, .int .i64 x1, .int .i64 x2, .int .i64 x3] 78)) fun _ q => q.elim
        have hbA := al_same wr (.cells #[.int .i64 x0, .int .i64 x1, .int .i64 x2, .int .i64 x3] 78)
        have hsA : wr.heap.size + 1 = (wr.alloc (.cells #[.int .i64 x0, .int .i64 x1, .int .i64 x2, .int .i64 x3] 78)).heap.size := by simp
        have hBwa := Lib.hid (hBw.alloc hBw.size (.cells #[.int .i64 x0, .int .i64 x1, .int .i64 x2, .int .i64 x3] 78))
        have hlt1 := fun j q => (hAR.o1.lt j q).2
        clear hxk hAR hBw
        cases hst : Pl.still x0 with
        | true =>
          obtain ⟨t7, t8, t9⟩ := still_true hst
          have hx1H : Hid (Pl.anyActs (xs.take (k + 1)) 1 = Pl.anyActs (xs.take k) 1 ++ [(x0, x1, x2, x3)]) := Lib.hid (by rw [Pl.any_take1 hxkH.out, if_pos hst])
          clear hst
          have hl1 := Pl.any_len1 xs k
          go_wp2_with (first | (refine wpList_b1 rfl _ rfl rfl (wr.heap.size + 1) hsA.symm ?_) | (at_builtin; refine wpList_append_lies _ rfl _ _ _ rfl w.heap.size 78 i0 (.agg #[.int .i64 0, .int .i64 0, .int .i64 0, .int .i64 0]) 4 32 Try.underlying62 hi.out.1 hi.out.2.1 hi.out.2.2.1 hi.out.2.2.2 rfl (by decide) (.slice q1 (Pl.anyActs (xs.take k) 1).length c1) (Pl.anyActs (xs.take k) 1).length (flatActs (Pl.anyActs (xs.take k) 1)) rfl (own_alloc hARa.o1 _) ⟨_, 0, none⟩ 1 1 (actCells (x0, x1, x2, x3)) rfl rfl (World.news_of_block (al_at (wr.alloc (.cells #[.int .i64 x0, .int .i64 x1, .int .i64 x2, .int .i64 x3] 78)) (.cells #[.int .i64 x0, .int .i64 x1, .int .i64 x2, .int .i64 x3] 78) _ hsA)) (by simp [Value.oneCell', actCells]) (by decide) (by simp only [maxLen]; omega) (by omega) (by rw [al_size]; have := hBwa.out.size; omega) _ rfl ?_; intro g gcap wr1 hown hgrow hat hglt; have hb17 := (fr_grown hgrow).blk hbA (fun e => Nat.lt_irrefl _ (hlt1 _ e)); have z0 : wr1.cell? ⟨wr.heap.size, 0, none⟩ = some (.int .i64 x0) := (by rw [cell_of hb17]; rfl); have z1 : wr1.cell? ⟨wr.heap.size, 1, none⟩ = some (.int .i64 x1) := (by rw [cell_of hb17]; rfl); have z2 : wr1.cell? ⟨wr.heap.size, 2, none⟩ = some (.int .i64 x2) := (by rw [cell_of hb17]; rfl); have z3 : wr1.cell? ⟨wr.heap.size, 3, none⟩ = some (.int .i64 x3) := (by rw [cell_of hb17]; rfl); clear hb17))
          obtain ⟨hAR1, hf1⟩ := hARa.app1 (x0, x1, x2, x3) rfl hown hgrow (hat.imp id (fun e => by rw [al_size] at e; omega))
          have hBw1 := Lib.hid (Fr.to_below hBwa.out hBwa.out.size hf1 fun _ q => q)
          clear hARa hf1 hown hgrow hat hBwa hsA
          obtain ⟨NB, hNB⟩ : ∃ NB, wr1.heap.size = NB := ⟨_, rfl⟩
          have hl2 := Pl.any_len2 xs k
          go_wp2_with (first | (refine wpList_b2 rfl _ _ rfl rfl rfl NB hNB ?_) | (at_builtin; refine wpList_append_lies _ rfl _ _ _ rfl w.heap.size 78 i0 (.agg #[.int .i64 0, .int .i64 0, .int .i64 0, .int .i64 0]) 4 32 Try.underlying62 hi.out.1 hi.out.2.1 hi.out.2.2.1 hi.out.2.2.2 rfl (by decide) (.slice q2 (Pl.anyActs (xs.take k) 2).length c2) (Pl.anyActs (xs.take k) 2).length (flatActs (Pl.anyActs (xs.take k) 2)) rfl (own_alloc hAR1.o2 _) ⟨_, 0, none⟩ 2 2 (actCells (x0, x1, x2, x3) ++ actCells (9, 1, 0, 0)) rfl rfl (World.news_of_block (al_at wr1 (.cells #[.int .i64 x0, .int .i64 x1, .int .i64 x2, .int .i64 x3, .int .i64 9, .int .i64 1, .int .i64 0, .int .i64 0] 78) _ hNB.symm)) (by simp [Value.oneCell', actCells]) (by decide) (by simp only [maxLen]; omega) (by omega) (by rw [al_size]; have := hBw1.out.size; omega) _ rfl ?_; intro g' gcap w9 hown hgrow hat hglt))
          obtain ⟨hAR2, hf2⟩ := hAR1.app2 (x0, x1, x2, x3) (9, 1, 0, 0) rfl hown hgrow (hat.imp id (fun e => by rw [al_size] at e; omega))
          have hfin := Lib.hid (And.intro hAR2 (Fr.to_below hBw1.out hBw1.out.size hf2 fun _ q => q))
          clear hAR1 hAR2 hf2 hown hgrow hat hBw1
          go_roundw
          case rel => exact ⟨k + 1, _, _, _, _, by first | (rw [hx1H.out]; done) | (rw [hx1H.out, List.length_append]; rfl), by rw [Pl.any_take2 hxkH.out, List.length_append]; rfl, by go_num, by omega, by have q := hfin.out.1; rw [Pl.any_take2 hxkH.out, hx1H.out]; first | (rw [List.length_append, List.length_append]; exact q) | (rw [List.length_append]; exact q), hfin.out.2⟩
          case measure => simp [intOf]; omega
        | false =>
          have hx1H : Hid (Pl.anyActs (xs.take (k + 1)) 1 = Pl.anyActs (xs.take k) 1) := Lib.hid (by rw [Pl.any_take1 hxkH.out, if_neg (by rw [hst]; decide)])
          obtain ⟨NB, hNB⟩ : ∃ NB, (wr.alloc (.cells #[.int .i64 x0, .int .i64 x1, .int .i64 x2, .int .i64 x3] 78)).heap.size = NB := ⟨_, rfl⟩
          have hs := still_false hst
          clear hst hsA hbA hlt1
          rcases hs with t7 | ⟨t7, t8⟩ | ⟨t7, t8, t9⟩
          · skip
            have hl2 := Pl.any_len2 xs k
            go_wp2_with (first | (refine wpList_b2 rfl _ _ rfl rfl rfl NB hNB ?_) | (at_builtin; refine wpList_append_lies _ rfl _ _ _ rfl w.heap.size 78 i0 (.agg #[.int .i64 0, .int .i64 0, .int .i64 0, .int .i64 0]) 4 32 Try.underlying62 hi.out.1 hi.out.2.1 hi.out.2.2.1 hi.out.2.2.2 rfl (by decide) (.slice q2 (Pl.anyActs (xs.take k) 2).length c2) (Pl.anyActs (xs.take k) 2).length (flatActs (Pl.anyActs (xs.take k) 2)) rfl (own_alloc hARa.o2 _) ⟨_, 0, none⟩ 2 2 (actCells (x0, x1, x2, x3) ++ actCells (9, 1, 0, 0)) rfl rfl (World.news_of_block (al_at (wr.alloc (.cells #[.int .i64 x0, .int .i64 x1, .int .i64 x2, .int .i64 x3] 78)) (.cells #[.int .i64 x0, .int .i64 x1, .int .i64 x2, .int .i64 x3, .int .i64 9, .int .i64 1, .int .i64 0, .int .i64 0] 78) _ hNB.symm)) (by simp [Value.oneCell', actCells]) (by decide) (by simp only [maxLen]; omega) (by omega) (by rw [al_size]; have := hBwa.out.size; omega) _ rfl ?_; intro g' gcap w9 hown hgrow hat hglt))
            obtain ⟨hAR2, hf2⟩ := hARa.app2 (x0, x1, x2, x3) (9, 1, 0, 0) rfl hown hgrow (hat.imp id (fun e => by rw [al_size] at e; try omega))
            have hfin := Lib.hid (And.intro hAR2 (Fr.to_below hBwa.out hBwa.out.size hf2 fun _ q => q))
            clear hARa hAR2 hf2 hown hgrow hat hBwa
            go_roundw
            case rel => exact ⟨k + 1, _, _, _, _, by first | (rw [hx1H.out]; done) | (rw [hx1H.out, List.length_append]; rfl), by rw [Pl.any_take2 hxkH.out, List.length_append]; rfl, by go_num, by omega, by have q := hfin.out.1; rw [Pl.any_take2 hxkH.out, hx1H.out]; first | (rw [List.length_append, List.length_append]; exact q) | (rw [List.length_append]; exact q), hfin.out.2⟩
            case measure => simp [intOf]; omega
          · skip
            have hl2 := Pl.any_len2 xs k
            go_wp2_with (first | (refine wpList_b2 rfl _ _ rfl rfl rfl NB hNB ?_) | (at_builtin; refine wpList_append_lies _ rfl _ _ _ rfl w.heap.size 78 i0 (.agg #[.int .i64 0, .int .i64 0, .int .i64 0, .int .i64 0]) 4 32 Try.underlying62 hi.out.1 hi.out.2.1 hi.out.2.2.1 hi.out.2.2.2 rfl (by decide) (.slice q2 (Pl.anyActs (xs.take k) 2).length c2) (Pl.anyActs (xs.take k) 2).length (flatActs (Pl.anyActs (xs.take k) 2)) rfl (own_alloc hARa.o2 _) ⟨_, 0, none⟩ 2 2 (actCells (x0, x1, x2, x3) ++ actCells (9, 1, 0, 0)) rfl rfl (World.news_of_block (al_at (wr.alloc (.cells #[.int .i64 x0, .int .i64 x1, .int .i64 x2, .int .i64 x3] 78)) (.cells #[.int .i64 x0, .int .i64 x1, .int .i64 x2, .int .i64 x3, .int .i64 9, .int .i64 1, .int .i64 0, .int .i64 0] 78) _ hNB.symm)) (by simp [Value.oneCell', actCells]) (by decide) (by simp only [maxLen]; omega) (by omega) (by rw [al_size]; have := hBwa.out.size; omega) _ rfl ?_; intro g' gcap w9 hown hgrow hat hglt))
            obtain ⟨hAR2, hf2⟩ := hARa.app2 (x0, x1, x2, x3) (9, 1, 0, 0) rfl hown hgrow (hat.imp id (fun e => by rw [al_size] at e; try omega))
            have hfin := Lib.hid (And.intro hAR2 (Fr.to_below hBwa.out hBwa.out.size hf2 fun _ q => q))
            clear hARa hAR2 hf2 hown hgrow hat hBwa
            go_roundw
            case rel => exact ⟨k + 1, _, _, _, _, by first | (rw [hx1H.out]; done) | (rw [hx1H.out, List.length_append]; rfl), by rw [Pl.any_take2 hxkH.out, List.length_append]; rfl, by go_num, by omega, by have q := hfin.out.1; rw [Pl.any_take2 hxkH.out, hx1H.out]; first | (rw [List.length_append, List.length_append]; exact q) | (rw [List.length_append]; exact q), hfin.out.2⟩
            case measure => simp [intOf]; omega
          · skip
            have hl2 := Pl.any_len2 xs k
            go_wp2_with (first | (refine wpList_b2 rfl _ _ rfl rfl rfl NB hNB ?_) | (at_builtin; refine wpList_append_lies _ rfl _ _ _ rfl w.heap.size 78 i0 (.agg #[.int .i64 0, .int .i64 0, .int .i64 0, .int .i64 0]) 4 32 Try.underlying62 hi.out.1 hi.out.2.1 hi.out.2.2.1 hi.out.2.2.2 rfl (by decide) (.slice q2 (Pl.anyActs (xs.take k) 2).length c2) (Pl.anyActs (xs.take k) 2).length (flatActs (Pl.anyActs (xs.take k) 2)) rfl (own_alloc hARa.o2 _) ⟨_, 0, none⟩ 2 2 (actCells (x0, x1, x2, x3) ++ actCells (9, 1, 0, 0)) rfl rfl (World.news_of_block (al_at (wr.alloc (.cells #[.int .i64 x0, .int .i64 x1, .int .i64 x2, .int .i64 x3] 78)) (.cells #[.int .i64 x0, .int .i64 x1, .int .i64 x2, .int .i64 x3, .int .i64 9, .int .i64 1, .int .i64 0, .int .i64 0] 78) _ hNB.symm)) (by simp [Value.oneCell', actCells]) (by decide) (by simp only [maxLen]; omega) (by omega) (by rw [al_size]; have := hBwa.out.size; omega) _ rfl ?_; intro g' gcap w9 hown hgrow hat hglt))
            obtain ⟨hAR2, hf2⟩ := hARa.app2 (x0, x1, x2, x3) (9, 1, 0, 0) rfl hown hgrow (hat.imp id (fun e => by rw [al_size] at e; try omega))
            have hfin := Lib.hid (And.intro hAR2 (Fr.to_below hBwa.out hBwa.out.size hf2 fun _ q => q))
            clear hARa hAR2 hf2 hown hgrow hat hBwa
            go_roundw
            case rel => exact ⟨k + 1, _, _, _, _, by first | (rw [hx1H.out]; done) | (rw [hx1H.out, List.length_append]; rfl), by rw [Pl.any_take2 hxkH.out, List.length_append]; rfl, by go_num, by omega, by have q := hfin.out.1; rw [Pl.any_take2 hxkH.out, hx1H.out]; first | (rw [List.length_append, List.length_append]; exact q) | (rw [List.length_append]; exact q), hfin.out.2⟩
            case measure => simp [intOf]; omega
      · obtain rfl : k = xs.length := by omega
        rw [List.take_length] at hAR ⊢
        have hacts := any_start (hxH.out.below hBw) (fun j q => Nat.lt_of_lt_of_le (hEH.out j q) hBw.size) hAR rfl rfl (.cells #[.slice none 0 0, .slice none 0 0, .slice none 0 0] 42)
        have hS0 := hshH.out.of_blocks (w' := (wr.alloc (.cells #[.slice none 0 0, .slice none 0 0, .slice none 0 0] 42)).alloc (.cells #[.slice ap xs.length acap, .slice q1 (Pl.anyActs xs 1).length c1, .slice q2 (Pl.anyActs xs 2).length c2] 62)) (fun j q => ((((Fr.of_below (S := fun _ => False) hBw).alloc _).alloc _).block j (hDH.out j q) id))
        have hB0 := hBw.alloc hBw.size (.cells #[.slice none 0 0, .slice none 0 0, .slice none 0 0] 42) |>.alloc (by rw [al_size]; have := hBw.size; omega) (.cells #[.slice ap xs.length acap, .slice q1 (Pl.anyActs xs 1).length c1, .slice q2 (Pl.anyActs xs 2).length c2] 62)
        have hBf : ((wr.alloc (.cells #[.slice none 0 0, .slice none 0 0, .slice none 0 0] 42)).alloc (.cells #[.slice ap xs.length acap, .slice q1 (Pl.anyActs xs 1).length c1, .slice q2 (Pl.anyActs xs 2).length c2] 62)).heap[wr.heap.size]? = some (.cells #[.slice none 0 0, .slice none 0 0, .slice none 0 0] 42 (0, 0)) := by
          rw [al_old _ _ _ (by rw [al_size]; omega)]; exact al_same _ _
        have hsz0 : ((wr.alloc (.cells #[.slice none 0 0, .slice none 0 0, .slice none 0 0] 42)).alloc (.cells #[.slice ap xs.length acap, .slice q1 (Pl.anyActs xs 1).length c1, .slice q2 (Pl.anyActs xs 2).length c2] 62)).heap.size = wr.heap.size + 2 := by simp
        have hBB : w.heap.size ≤ wr.heap.size := hBw.size
        have hH := Lib.hid (And.intro hacts (And.intro hS0 (And.intro hB0 (And.intro hBf (And.intro hsz0 hBB)))))
        clear hacts hS0 hB0 hBf hsz0 hBB hAR hBw
        go_wp2_with (fail)
        generalize hW0 : ((wr.alloc (.cells #[.slice none 0 0, .slice none 0 0, .slice none 0 0] 42)).alloc (.cells #[.slice ap xs.length acap, .slice q1 (Pl.anyActs xs 1).length c1, .slice q2 (Pl.anyActs xs 2).length c2] 62)) = W0 at *
        generalize wr.heap.size = B at *
        clear hW0 hk hlt
        by_cases hsz : Mem.sizedE ss = 0
        · have hP0 := inv_new n hsz hY0.out.1 hH0.out.1 (by have := hY0.out; omega) (by have := hH0.out; omega)
          have hr0 : (⟨Mem.newM ss H Y, List.replicate n 0⟩ : Pl).roots.length ≤ 200 := by have := hn0.out; simp; omega
          obtain ⟨p0, es0, pc0, hrun0, -, -, -, hpc0⟩ := Pl.any_run hP0 hr0 xs
          have hPH := Lib.hid (And.intro hsz (And.intro hP0 (And.intro hr0 (And.intro hrun0 hpc0))))
          clear hsz hP0 hr0 hrun0 hpc0
          go_loopw [75] (fun i wr => ∃ (k : Nat) (f1 f2 f3 : Value), i = .int .i64 k ∧ k ≤ 3 ∧ AnyS W0 wr B pc0 (es0.contains 14 = false) k f1 f2 f3) (fun i _ => 3 - (intOf i).toNat)
          case atStart => exact ⟨0, _, _, _, rfl, by omega, ⟨Fr.refl _ _, hH.out.2.2.2.1, fun q => absurd rfl q⟩⟩
          case round =>
            obtain ⟨k, f1, f2, f3, rfl, hk, hA⟩ := hrel
            by_cases hlt : k < 3
            · obtain ⟨q, c, hcell, hact⟩ := hH.out.1 k hlt
              have hcell' := hA.fr.cell hcell (by show ¬ B + 1 = B; omega)
              have hact' := hact.fr hA.fr (fun j q => by have : j < B := q; omega)
              obtain ⟨pk, esk, pck, hrun, hlen, hinv, hrl, hpc⟩ := Pl.any_run hPH.out.2.1 hPH.out.2.2.1 (Pl.anyActs xs k)
              have hal := Pl.anyActs_len l300 k
              have hS := any_shapes hH.out.2.1 hH.out.2.2.2.2.2 (lt_of_block hH.out.2.2.2.1) hA.fr hDH.out
              have hPL := (c_Play wr D _ ss hS.1 hS.2 Y H hPH.out.1 hY0.out.1 hH0.out.1 (by have := hY0.out; omega) (by have := hH0.out; omega) n (by have := hn0.out; omega) (fun j => j < B) _ _ hact' (fun j q => by have := lt_of_block hA.blk; have : j < B := q; omega) (by omega) (Pl.anyActs_wf hwfH.out k) pk esk hrun).mono
                (R' := fun e w' => ∃ L rv ev, e = .returned (.tuple #[.pointer (some ⟨L.b, 0, none⟩), rv, ev, .int .i64 0]) ∧ MemRep w' L pk.mem ∧ IntsAt w' (fun _ => True) rv pk.roots ∧ IntsAt w' (fun _ => True) ev esk ∧ AnyS W0 w' B pc0 (es0.contains 14 = false) k f1 f2 f3)
                fun e w' ⟨L, pb, rv, ev, g1, g2, g3, g4, _, _⟩ => ⟨L, rv, ev, g1, g2.rep, g2.out.ints.monoD fun _ _ => trivial, (owns_intsT g3.own).monoD fun _ _ => trivial, hA.below g4⟩
              have hR := Lib.hid (And.intro hrun (And.intro hlen (And.intro hinv (And.intro hrl hpc))))
              rw [hnH.out] at hPL
              clear hcell hact hact' hS hA hrun hlen hinv hrl hpc
              go_wp2_with (fail)
              refine hPL.mono ?_
              rintro e W1 ⟨L, rv, ev, rfl, hM, hrv, hev, hA⟩
              clear hPL hcell'
              have hpi := (c_Picture W1 L pk.mem hM hR.out.2.2.1.inv _ _ pk.roots hrv (by have h1 := hR.out.2.2.2.1; have h2 := hPH.out.2.2.1; omega) pck 0 hR.out.2.2.2.2).mono
                (R' := fun e w' => ∃ v1 v2 v3, e = .returned (.tuple #[.agg #[v1, v2, v3], .int .i64 0]) ∧ PicAt w' (fun j => j ≠ B) v1 v2 v3 pck ∧ IntsAt w' (fun _ => True) ev esk ∧ AnyS W0 w' B pc0 (es0.contains 14 = false) k f1 f2 f3)
                fun e w' ⟨v1, v2, v3, g1, g2, g3⟩ => ⟨v1, v2, v3, g1, g2.monoD fun j hj => by have := lt_of_block hA.blk; omega, hev.bl g3, hA.below g3⟩
              obtain ⟨rp, rc, rfl, -⟩ := hrv
              obtain ⟨ep, ec, hev', hev2⟩ := hev
              subst hev'
              clear hM hA hev2
              go_wp2_with (fail)
              refine hpi.mono ?_
              rintro e W2 ⟨v1, v2, v3, rfl, hP, hev, hA⟩
              clear hpi
              have hAB := lt_of_block hA.blk
              have hcn := any_con hP hev (by rw [hR.out.2.1]; exact hal) hA
              obtain ⟨p1, n1, rfl, -⟩ := hP.1
              obtain ⟨p2, n2, rfl, -⟩ := hP.2.1
              obtain ⟨p3, n3, rfl, -⟩ := hP.2.2.1
              clear hP hev hA
              cases hct : esk.contains 14 with
              | true =>
                rw [hct] at hcn
                clear hct
                go_wp2_with (fail)
                refine hcn.mono ?_
                rintro e W3 ⟨rfl, hA, -, -⟩
                clear hcn
                go_wp2_with (fail)
                refine (c_sanity _).mono ?_
                rintro e W4 ⟨rfl, hb⟩
                have hfin := any_below hH.out.2.2.1 hH.out.2.2.2.2.2 hA hb
                clear hA hb
                go_wp2
                go_ret
                exact ⟨rfl, hfin⟩
              | false =>
                rw [hct] at hcn
                obtain ⟨G, hG⟩ : ∃ G, W2.heap.size = G := ⟨_, rfl⟩
                by_cases hk0 : k = 0
                · have hkB : ((k : Int) == 0) = true := by rw [hk0]; rfl
                  have hsame : pck = pc0 ∧ es0.contains 14 = false := by
                    subst hk0
                    have e1 := hR.out.1.symm.trans hPH.out.2.2.2.1
                    simp only [Option.some.injEq, Prod.mk.injEq] at e1
                    obtain ⟨e1, e2⟩ := e1
                    subst e1 e2
                    have e3 := hR.out.2.2.2.2.symm.trans hPH.out.2.2.2.2
                    simp only [Option.some.injEq, Prod.mk.injEq, and_true] at e3
                    exact ⟨e3, hct⟩
                  have hsameH := Lib.hid hsame
                  clear hct hk0 hsame
                  go_wp2_with (fail)
                  refine hcn.mono ?_
                  rintro e W3 ⟨rfl, hA, hP, hG3⟩
                  clear hcn
                  rw [hG] at hG3
                  obtain ⟨W5, hW5, hg, hf, hsp⟩ := any_store hA hP hsameH.out.1 hsameH.out.2 hG3 (by omega)
                  obtain ⟨g0, g1, g2⟩ := hg
                  obtain ⟨y0, y1, y2⟩ := hf
                  obtain ⟨a0, a1, a2⟩ := any_cells hG3
                  obtain ⟨b0, b1, b2⟩ := any_cells hA.blk
                  have z0 := free_of hA.blk 0
                  have z1 := free_of hA.blk 1
                  have z2 := free_of hA.blk 2
                  clear hA hP hG3
                  subst hG
                  go_wp2_with (fail)
                  refine hsp.mono ?_
                  rintro e W6 ⟨rfl, hA⟩
                  clear hsp g0 g1 g2 y0 y1 y2 a0 a1 a2 b0 b1 b2 z0 z1 z2 hW5
                  go_wp2
                  go_roundw
                  case rel => exact ⟨k + 1, _, _, _, by go_num, by omega, hA⟩
                  case measure => simp [intOf]; omega
                · have hkB : ((k : Int) == 0) = false := by rw [beq_eq_false_iff_ne]; omega
                  have hk0H := Lib.hid hk0
                  have hctH := Lib.hid hct
                  clear hct hk0
                  go_wp2_with (fail)
                  refine hcn.mono ?_
                  rintro e W3 ⟨rfl, hA, hP, hG3⟩
                  clear hcn
                  rw [hG] at hG3
                  have hno := (hA.pic hk0H.out).2
                  have hsp := any_again hA hP (Pl.any_same hPH.out.2.1 hPH.out.2.2.1 hPH.out.2.2.2.1 hPH.out.2.2.2.2 hno k hR.out.1 hR.out.2.2.2.2 hctH.out) hk0H.out
                  obtain ⟨r1, s1, rfl, -⟩ := (hA.pic hk0H.out).1.1
                  obtain ⟨r2, s2, rfl, -⟩ := (hA.pic hk0H.out).1.2.1
                  obtain ⟨r3, s3, rfl, -⟩ := (hA.pic hk0H.out).1.2.2.1
                  obtain ⟨a0, a1, a2⟩ := any_cells hG3
                  obtain ⟨b0, b1, b2⟩ := any_cells hA.blk
                  clear hA hP hG3 hno
                  subst hG
                  go_wp2_with (fail)
                  refine hsp.mono ?_
                  rintro e W6 ⟨rfl, hA⟩
                  clear hsp a0 a1 a2 b0 b1 b2
                  go_wp2
                  go_roundw
                  case rel => exact ⟨k + 1, _, _, _, by go_num, by omega, hA⟩
                  case measure => simp [intOf]; omega
            · obtain rfl : k = 3 := by omega
              clear hlt hk
              go_wp2_with (fail)
              refine (c_sanity _).mono ?_
              rintro e W4 ⟨rfl, hb⟩
              have hfin := any_below hH.out.2.2.1 hH.out.2.2.2.2.2 hA hb
              clear hA hb
              go_wp2
              go_ret
              exact ⟨rfl, hfin⟩
        · have hszH := Lib.hid hsz
          clear hsz
          go_loopw [75] (fun i wr => i = .int .i64 0 ∧ wr = W0) (fun _ _ => 0)
          case atStart => exact ⟨rfl, rfl⟩
          case round =>
            obtain ⟨rfl, rfl⟩ := hrel
            obtain ⟨q, c, hcell, -⟩ := hH.out.1 0 (by omega)
            have hPL := c_Play_limit wr D _ ss hH.out.2.1 (by omega) (fun l hl => by have := l70H.out l hl; omega) (Y : Int) (H : Int) (n : Int) hszH.out q (Pl.anyActs xs 0).length c
            rw [hnH.out] at hPL
            go_wp2_with (fail)
            refine hPL.mono ?_
            rintro e W1 ⟨rfl, rfl⟩
            clear hPL hcell
            go_wp2_with (fail)
            refine (c_sanity _).mono ?_
            rintro e W4 ⟨rfl, hb⟩
            have hfin := hH.out.2.2.1.trans (hb.mono hH.out.2.2.1.size)
            clear hb
            go_wp2
            go_ret
            exact ⟨rfl, hfin⟩
end Go.Proofs.Ytnedmmopkhmejaa
