/- Walk: sanity. -/
import Derived.Test.YtnedmmopkhmejaaKHW24
set_option linter.unusedVariables false
set_option linter.unusedSimpArgs false
namespace Go.Proofs.Ytnedmmopkhmejaa
open Go.RowKit Go.Proofs.Hp
attribute [local go_sem] Oper.semAt_some

/-- A memory of the call's own. -/
structure OwnR (B : World) (W : World) (L : ML) (m : Mem) : Prop where
  rep : MemRep W L m
  fpB : ∀ k ∈ L.fp, B.heap.size ≤ k
  bl : Below B.heap.size B W
theorem OwnR.ev {B W W' : World} {L L' : ML} {m m' : Mem} (h : OwnR B W L m) (h' : MemRep W' L' m') (e : Ev L L' W W') : OwnR B W' L' m' :=
  ⟨h', fun k hk => (e.fp k hk).elim (h.fpB k) (fun q => Nat.le_trans h.bl.size q),
    ⟨e.fr.os.trans h.bl.os, e.fr.tape.trans h.bl.tape, e.fr.output.trans h.bl.output, Nat.le_trans h.bl.size e.fr.size, fun k hk => (e.fr.block k (Nat.lt_of_lt_of_le hk h.bl.size) (fun q => by have := h.fpB k q; omega)).trans (h.bl.block k hk)⟩⟩
theorem OwnR.below {B W W' : World} {L : ML} {m : Mem} (h : OwnR B W L m) (hb : Below W.heap.size W W') : OwnR B W' L m := h.ev (h.rep.below hb) (Ev.of_fr (Fr.of_below hb))
theorem OwnR.fr {B W W' : World} {L : ML} {m m' : Mem} (h : OwnR B W L m) (h' : MemRep W' L m') (f : Fr (fun k => k ∈ L.fp) W W') : OwnR B W' L m' := h.ev h' (Ev.of_fr f)
theorem OutAt.ev {W W' : World} {L L' : ML} {B : Nat} {v : Value} {xs : List Int} (h : OutAt W (fun k => B ≤ k ∧ k ∉ L.fp) v xs) (e : Ev L L' W W') : OutAt W' (fun k => B ≤ k ∧ k ∉ L'.fp) v xs := by
  refine (h.mono (D' := fun k => (B ≤ k ∧ k ∉ L.fp) ∧ k < W.heap.size) fun k hk hl => ⟨hk, hl⟩).of_blocks (fun k hk _ => e.fr.block k hk.2 hk.1.2) |>.mono fun k hk _ => ⟨hk.1.1, fun q => (e.fp k q).elim hk.1.2 (fun g => by omega)⟩
theorem ints2 (w : World) (a b : Int) : IntsAt (w.alloc (.cells #[.int .i64 a, .int .i64 b] 3)) (fun k => k = w.heap.size) (.slice (some ⟨w.heap.size, 0, none⟩) 2 2) [a, b] := by
  refine ⟨_, 2, rfl, .inr ⟨w.heap.size, 0, rfl, rfl, fun i hi => ?_⟩⟩
  have hi2 : i < 2 := hi
  rcases i with _ | _ | i
  · rw [cell_of (al_same _ _)]; rfl
  · rw [cell_of (al_same _ _)]; rfl
  · omega
theorem ints1 (w : World) (a : Int) : IntsAt (w.alloc (.cells #[.int .i64 a] 3)) (fun k => k = w.heap.size) (.slice (some ⟨w.heap.size, 0, none⟩) 1 1) [a] := by
  refine ⟨_, 1, rfl, .inr ⟨w.heap.size, 0, rfl, rfl, fun i hi => ?_⟩⟩
  have hi2 : i < 1 := hi
  rcases i with _ | i
  · rw [cell_of (al_same _ _)]; rfl
  · omega

theorem c_Step (w : World) (L : ML) (m m' : Mem) (h : MemRep w L m) (n v e0 : Int) (hn63 : n ≤ 9223372036854775807) (hs : m.stepE n = some (m', v, e0)) :
    Calls Try.prog 31 #[.pointer (some ⟨L.b, 0, none⟩), .int .i64 n] w fun e w' => ∃ L', e = .returned (.tuple #[.int .i64 v, .int .i64 e0]) ∧ MemRep w' L' m' ∧ Ev L L' w w' := by
  unfold Mem.stepE at hs
  by_cases h0 : n < 0
  · rw [if_pos h0] at hs
    simp only [Option.some.injEq, Prod.mk.injEq] at hs
    obtain ⟨rfl, rfl, rfl⟩ := hs
    exact (c_Step_arg w L m h n h0).mono fun e w' ⟨q1, q2⟩ => ⟨L, q1, by rw [← q2]; exact h, by rw [← q2]; exact Ev.refl _ _⟩
  · rw [if_neg h0] at hs
    cases hb : m.busy with
    | false =>
      rw [hb] at hs
      simp only [Bool.not_false, if_true, Option.some.injEq, Prod.mk.injEq] at hs
      obtain ⟨rfl, rfl, rfl⟩ := hs
      exact (c_Step_idle w L m h n (by omega) hb).mono fun e w' ⟨q1, q2⟩ => ⟨L, q1, by rw [← q2]; exact h, by rw [← q2]; exact Ev.refl _ _⟩
    | true =>
      rw [hb] at hs
      simp only [Bool.not_true, Bool.false_eq_true, if_false] at hs
      cases hl : Mem.stepLoop n.toNat m with
      | none => rw [hl] at hs; cases hs
      | some m1 =>
        rw [hl] at hs
        simp only at hs
        have he : e0 = 0 := by
          split at hs <;> simp only [Option.some.injEq, Prod.mk.injEq] at hs <;> exact hs.2.2.symm
        subst he
        exact (c_Step_busy w L m m1 h n (by omega) hn63 hb hl v m' hs).mono fun e w' ⟨q1, L', q2, q3⟩ => ⟨L', q1, q2, q3⟩

set_option maxRecDepth 100000 in
set_option maxHeartbeats 4000000 in
theorem c_sanity (w : World) : Calls Try.prog 14 #[] w fun e w' => e = .returned (.bool true) ∧ Below w.heap.size w w' := by
  go_enter Try.func14, Try.ntmps14
  go_wp2_with (fail)
  refine (c_Shapes w).mono ?_
  rintro e W1 ⟨v, rfl, hsh, hb1⟩
  have hn := c_New W1 _ v San.shapes hsh (fun k hk => hk.2) 10 40 rfl (by omega) (by omega) (by omega) (by omega)
  obtain ⟨shp, shc, rfl, -⟩ := hsh
  go_wp2_with (fail)
  refine hn.mono ?_
  rintro e W2 ⟨L, rfl, hM, hb2, hfp, -⟩
  clear hn
  have h0 : OwnR w W2 L San.m0 := ⟨hM, fun k hk => Nat.le_trans hb1.size (hfp k hk), hb1.trans (hb2.mono hb1.size)⟩
  have h0H := Lib.hid h0
  clear hM hb2 hfp hb1 h0
  have ha1 := c_Alloc W2 L San.m0 h0H.out.rep 0
  rw [San.a1] at ha1
  replace ha1 := ha1.mono (R' := fun e w' => e = .returned (.tuple #[.int .i64 1, .int .i64 0]) ∧ OwnR w w' L San.m1) fun e w' ⟨q1, q2, q3⟩ => ⟨q1, h0H.out.fr q2 q3⟩
  go_wp2_with (fail)
  refine ha1.mono ?_
  rintro e W3 ⟨rfl, h1⟩
  have h1H := Lib.hid h1
  clear ha1 h1 h0H
  have ha2 := c_Alloc W3 L San.m1 h1H.out.rep 0
  rw [San.a2] at ha2
  replace ha2 := ha2.mono (R' := fun e w' => e = .returned (.tuple #[.int .i64 4, .int .i64 0]) ∧ OwnR w w' L San.m2) fun e w' ⟨q1, q2, q3⟩ => ⟨q1, h1H.out.fr q2 q3⟩
  go_wp2_with (fail)
  refine ha2.mono ?_
  rintro e W4 ⟨rfl, h2⟩
  have h2H := Lib.hid h2
  clear ha2 h2 h1H
  have ha3 := c_Alloc W4 L San.m2 h2H.out.rep 0
  rw [San.a3] at ha3
  replace ha3 := ha3.mono (R' := fun e w' => e = .returned (.tuple #[.int .i64 7, .int .i64 0]) ∧ OwnR w w' L San.m3) fun e w' ⟨q1, q2, q3⟩ => ⟨q1, h2H.out.fr q2 q3⟩
  go_wp2_with (fail)
  refine ha3.mono ?_
  rintro e W5 ⟨rfl, h3⟩
  have h3H := Lib.hid h3
  clear ha3 h3 h2H
  have ha4 := c_Alloc W5 L San.m3 h3H.out.rep 0
  rw [San.a4] at ha4
  replace ha4 := ha4.mono (R' := fun e w' => e = .returned (.tuple #[.int .i64 0, .int .i64 14]) ∧ OwnR w w' L San.m3) fun e w' ⟨q1, q2, q3⟩ => ⟨q1, h3H.out.fr q2 q3⟩
  go_wp2_with (fail)
  refine ha4.mono ?_
  rintro e W6 ⟨rfl, h3b⟩
  have hs4 := (c_Set W6 L San.m3 San.m4 h3b.rep 1 1 4 0 San.s4).mono (R' := fun e w' => e = .returned (.int .i64 0) ∧ ∃ L', OwnR w w' L' San.m4 ∧ L'.b = L.b) fun e w' ⟨L', q1, q2, q3⟩ => ⟨q1, L', h3b.ev q2 q3, q3.b⟩
  clear ha4 h3H h3b
  go_wp2_with (fail)
  refine hs4.mono ?_
  rintro e W7 ⟨rfl, L4, h4, hb4⟩
  clear hs4
  have h4H := Lib.hid h4
  have hb4H := Lib.hid hb4
  have hi5 := ints2 W7 4 1
  have h4a := h4.below (W' := W7.alloc (.cells #[.int .i64 4, .int .i64 1] 3)) ((Below.refl _ _).alloc (Nat.le_refl _) _)
  have hm5 := (c_Minor _ L4 San.m4 San.m5 h4a.rep _ _ [4, 1] [11, 14] 0 hi5 (by decide) San.s5).mono (R' := fun e w' => ∃ v' L', e = .returned (.tuple #[v', .int .i64 0]) ∧ OwnR w w' L' San.m5 ∧ L'.b = L.b ∧ OutAt w' (fun k => 0 ≤ k ∧ k ∉ L'.fp) v' [11, 14]) fun e w' ⟨v', L', q1, q2, q3, q4⟩ => ⟨v', L', q1, h4a.ev q2 q3, q3.b.trans hb4, q4.mono fun k hk _ => ⟨Nat.zero_le _, hk.2⟩⟩
  rw [hb4] at hm5
  clear h4 hb4 hi5 h4a
  go_wp2_with (fail)
  refine hm5.mono ?_
  rintro e W8 ⟨v5, L5, rfl, h5, hb5, ho5⟩
  clear hm5 h4H hb4H
  have hi6 := ints2 W8 11 14
  have h5a := h5.below (W' := W8.alloc (.cells #[.int .i64 11, .int .i64 14] 3)) ((Below.refl _ _).alloc (Nat.le_refl _) _)
  have ho5a := ho5.ev (W' := W8.alloc (.cells #[.int .i64 11, .int .i64 14] 3)) (Ev.of_fr ((Fr.refl _ W8).alloc _))
  have hse5 := c_SameInts _ _ _ _ _ [11, 14] [11, 14] ho5a.ints hi6 (by decide) (by decide)
  rw [show (([11, 14] : List Int) == [11, 14]) = true from rfl] at hse5
  obtain ⟨vp5, vc5, rfl, -⟩ := ho5
  have h5aH := Lib.hid h5a
  have hb5H := Lib.hid hb5
  clear h5 hi6 h5a ho5a hb5
  go_wp2_with (fail)
  refine hse5.mono ?_
  rintro e W9 ⟨rfl, n9, rfl⟩
  clear hse5
  have h5b := h5aH.out.below (below_drewN (Below.refl _ _) n9)
  generalize (W8.alloc (.cells #[.int .i64 11, .int .i64 14] 3)).drewN n9 = W10 at *
  clear h5aH
  have h5bH := Lib.hid h5b
  have hrm5 : Calls Try.prog 24 #[.pointer (some ⟨L.b, 0, none⟩)] W10 fun e w' => e = .returned (.agg #[.int .i64 0, .int .i64 6, .int .i64 0]) ∧ OwnR w w' L5 San.m5 := by
    have q := c_Room W10 L5 San.m5 h5b.rep
    rw [San.r5.1, San.r5.2.1, San.r5.2.2, hb5H.out] at q
    exact q.mono fun e w' ⟨q1, q2⟩ => ⟨q1, h5b.below q2⟩
  clear h5b
  go_wp2_with (fail)
  refine hrm5.mono ?_
  rintro e W11 ⟨rfl, h5c⟩
  clear hrm5 h5bH
  have hg6 := (c_Get W11 L5 San.m5 San.m6 h5c.rep 14 1 11 0 San.s6).mono (R' := fun e w' => e = .returned (.tuple #[.int .i64 11, .int .i64 0]) ∧ OwnR w w' L5 San.m6) fun e w' ⟨q1, q2, q3⟩ => ⟨q1, h5c.fr q2 q3⟩
  rw [hb5H.out] at hg6
  clear h5c
  go_wp2_with (fail)
  refine hg6.mono ?_
  rintro e W12 ⟨rfl, h6⟩
  clear hg6
  have hsp6 := (c_Shape W12 L5 San.m6 h6.rep 4)
  rw [San.h6, hb5H.out] at hsp6
  replace hsp6 := hsp6.mono (R' := fun e w' => e = .returned (.tuple #[.int .i64 0, .int .i64 5]) ∧ OwnR w w' L5 San.m6) fun e w' ⟨q1, q2⟩ => ⟨q1, h6.below q2⟩
  clear h6
  go_wp2_with (fail)
  refine hsp6.mono ?_
  rintro e W13 ⟨rfl, h6b⟩
  clear hsp6
  have hi7 := ints1 W13 14
  have h6a := h6b.below (W' := W13.alloc (.cells #[.int .i64 14] 3)) ((Below.refl _ _).alloc (Nat.le_refl _) _)
  have hm7 := (c_Flip _ L5 San.m6 San.m7 h6a.rep _ _ [14] [51] 0 hi7 (by decide) San.b6 San.s7).mono (R' := fun e w' => ∃ v' L', e = .returned (.tuple #[v', .int .i64 0]) ∧ OwnR w w' L' San.m7 ∧ L'.b = L.b ∧ OutAt w' (fun k => 0 ≤ k ∧ k ∉ L'.fp) v' [51]) fun e w' ⟨v', L', q1, q2, q3, q4⟩ => ⟨v', L', q1, h6a.ev q2 q3, q3.b.trans hb5H.out, q4.mono fun k hk _ => ⟨Nat.zero_le _, hk.2⟩⟩
  rw [hb5H.out] at hm7
  clear h6b hi7 h6a
  go_wp2_with (fail)
  refine hm7.mono ?_
  rintro e W14 ⟨v7, L7, rfl, h7, hb7, ho7⟩
  clear hm7 hb5H
  obtain ⟨vp7, vc7, hv7, ho7'⟩ := ho7
  have ho7 : OutAt W14 (fun k => 0 ≤ k ∧ k ∉ L7.fp) v7 [51] := ⟨vp7, vc7, hv7, ho7'⟩
  clear ho7'
  subst hv7
  have hb7H := Lib.hid hb7
  clear hb7
  have hrm7 : Calls Try.prog 24 #[.pointer (some ⟨L.b, 0, none⟩)] W14 fun e w' => e = .returned (.agg #[.int .i64 0, .int .i64 3, .int .i64 3]) ∧ Below W14.heap.size W14 w' := by
    have q := c_Room W14 L7 San.m7 h7.rep
    rw [San.r7.1, San.r7.2.1, San.r7.2.2, hb7H.out] at q
    exact q
  have h7H := Lib.hid h7
  have ho7H := Lib.hid ho7
  clear h7 ho7
  go_wp2_with (fail)
  refine hrm7.mono ?_
  rintro e W15 ⟨rfl, hbl15⟩
  clear hrm7
  have h7b := h7H.out.below hbl15
  have ho7b := ho7H.out.ev (Ev.of_fr (Fr.of_below hbl15))
  clear h7H ho7H hbl15
  have hg8 := (c_Get W15 L7 San.m7 San.m8 h7b.rep 51 1 54 0 San.s8).mono (R' := fun e w' => e = .returned (.tuple #[.int .i64 54, .int .i64 0]) ∧ OwnR w w' L7 San.m8 ∧ OutAt w' (fun k => 0 ≤ k ∧ k ∉ L7.fp) (.slice vp7 1 vc7) [51]) fun e w' ⟨q1, q2, q3⟩ => ⟨q1, h7b.fr q2 q3, ho7b.ev (Ev.of_fr q3)⟩
  rw [hb7H.out] at hg8
  clear h7b ho7b
  go_wp2_with (fail)
  refine hg8.mono ?_
  rintro e W16 ⟨rfl, h8, ho8⟩
  clear hg8
  have hrm8 : Calls Try.prog 24 #[.pointer (some ⟨L.b, 0, none⟩)] W16 fun e w' => e = .returned (.agg #[.int .i64 0, .int .i64 6, .int .i64 0]) ∧ Below W16.heap.size W16 w' := by
    have q := c_Room W16 L7 San.m8 h8.rep
    rw [San.r8.1, San.r8.2.1, San.r8.2.2, hb7H.out] at q
    exact q
  have h8H := Lib.hid h8
  have ho8H := Lib.hid ho8
  clear h8 ho8
  go_wp2_with (fail)
  refine hrm8.mono ?_
  rintro e W17 ⟨rfl, hbl17⟩
  clear hrm8
  have h8b := h8H.out.below hbl17
  have ho8b := ho8H.out.ev (Ev.of_fr (Fr.of_below hbl17))
  clear h8H ho8H hbl17
  have hs9 := (c_Step W17 L7 San.m8 San.m9 h8b.rep 3 3 0 (by omega) San.s9).mono (R' := fun e w' => ∃ L', e = .returned (.tuple #[.int .i64 3, .int .i64 0]) ∧ OwnR w w' L' San.m9 ∧ L'.b = L.b ∧ OutAt w' (fun k => 0 ≤ k ∧ k ∉ L'.fp) (.slice vp7 1 vc7) [51]) fun e w' ⟨L', q1, q2, q3⟩ => ⟨L', q1, h8b.ev q2 q3, q3.b.trans hb7H.out, ho8b.ev q3⟩
  rw [hb7H.out] at hs9
  clear h8b ho8b
  go_wp2_with (fail)
  refine hs9.mono ?_
  rintro e W18 ⟨L9, rfl, h9, hb9, ho9⟩
  clear hs9 hb7H
  have hs10 := (c_Step W18 L9 San.m9 San.m10 h9.rep 3 0 0 (by omega) San.s10).mono (R' := fun e w' => ∃ L', e = .returned (.tuple #[.int .i64 0, .int .i64 0]) ∧ OwnR w w' L' San.m10 ∧ L'.b = L.b ∧ OutAt w' (fun k => 0 ≤ k ∧ k ∉ L'.fp) (.slice vp7 1 vc7) [51]) fun e w' ⟨L', q1, q2, q3⟩ => ⟨L', q1, h9.ev q2 q3, q3.b.trans hb9, ho9.ev q3⟩
  rw [hb9] at hs10
  clear h9 ho9 hb9
  go_wp2_with (fail)
  refine hs10.mono ?_
  rintro e W19 ⟨L10, rfl, h10, hb10, ho10⟩
  clear hs10
  have hbz := c_Busy W19 L10 San.m10 h10.rep
  rw [San.b10, hb10] at hbz
  have h10H := Lib.hid h10
  have ho10H := Lib.hid ho10
  have hb10H := Lib.hid hb10
  clear h10 ho10 hb10
  go_wp2_with (fail)
  refine hbz.mono ?_
  rintro e W20 ⟨rfl, rfl⟩
  clear hbz
  have hi11 := ints1 W19 51
  have h11 := h10H.out.below (W' := W19.alloc (.cells #[.int .i64 51] 3)) ((Below.refl _ _).alloc (Nat.le_refl _) _)
  have ho11 := ho10H.out.ev (W' := W19.alloc (.cells #[.int .i64 51] 3)) (Ev.of_fr ((Fr.refl _ W19).alloc _))
  have hse := c_SameInts _ _ _ _ _ [51] [51] ho11.ints hi11 (by decide) (by decide)
  rw [show (([51] : List Int) == [51]) = true from rfl] at hse
  replace hse := hse.mono (R' := fun e w' => e = .returned (.bool true) ∧ OwnR w w' L10 San.m10) fun e w' ⟨q1, n, q2⟩ => ⟨q1, by rw [q2]; exact h11.below (below_drewN (Below.refl _ _) n)⟩
  clear hi11 h11 ho11
  go_wp2_with (fail)
  refine hse.mono ?_
  rintro e W21 ⟨rfl, h12⟩
  clear hse
  have hck := (c_Check W21 L10 San.m10 h12.rep San.inv10).mono (R' := fun e w' => e = .returned (.int .i64 0) ∧ Below w.heap.size w w') fun e w' ⟨q1, q2⟩ => ⟨q1, (h12.below q2).bl⟩
  rw [hb10H.out] at hck
  clear h12
  go_wp2_with (fail)
  refine hck.mono ?_
  rintro e W22 ⟨rfl, hfin⟩
  clear hck
  go_wp2
  go_ret
  exact ⟨rfl, hfin⟩
end Go.Proofs.Ytnedmmopkhmejaa
