/- Walk of the player: fresh. -/
import Derived.Test.YtnedmmopkhmejaaKHA3
set_option linter.unusedVariables false
set_option linter.unusedSimpArgs false
namespace Go.Proofs.Hp
namespace Pl
theorem clearE_len {p p' : Pl} {e : Int} (h : p.clearE = some (p', e)) : p'.roots.length = p.roots.length := by
  unfold clearE at h
  cases hm : p.mem.minorE p.roots with
  | none => rw [hm] at h; cases h
  | some r =>
    obtain ⟨m', out, e0⟩ := r
    rw [hm] at h
    simp only [Option.map_some, Option.some.injEq, kept, Prod.mk.injEq] at h
    rw [← h.1]
    by_cases he : e0 = 0
    · subst he; rw [if_pos rfl]; exact Mem.minorE_len hm
    · rw [if_neg he]
def made (p : Pl) (i : Nat) (s : Int) : Pl × Int :=
  (if (p.mem.allocE s).2.2 = 0 then (⟨(p.mem.allocE s).1, p.roots⟩ : Pl).put i (p.mem.allocE s).2.1 else ⟨(p.mem.allocE s).1, p.roots⟩, (p.mem.allocE s).2.2)
def freshE (p : Pl) (i : Nat) (s : Int) : Option (Pl × Int) :=
  match p.mem.shapeAt s with
  | none => some (p, 1)
  | some l =>
    match (if p.mem.young.room < ((l.length + 1 : Nat) : Int) ∧ ((l.length + 1 : Nat) : Int) ≤ (p.mem.young.words.length : Int) then p.clearE else some (p, 0)) with
    | none => none
    | some (p1, e) => if e ≠ 0 then some (p1, e) else some (p1.made i s)
end Pl
end Go.Proofs.Hp
namespace Go.Proofs.Ytnedmmopkhmejaa
open Go.RowKit Go.Proofs.Hp
attribute [local go_sem] Oper.semAt_some

set_option maxRecDepth 100000 in
set_option maxHeartbeats 4000000 in
theorem c_pfresh (w : World) (pb : Nat) (L : ML) (rv : Value) (p p' : Pl) (h : PRep w pb L rv p) (hlr : p.roots.length ≤ 1048576) (k s c er : Int) (i : Nat) (hi : i < p.roots.length) (hl : p.freshE i s = some (p', er)) :
    Calls Try.prog 121 #[.pointer (some ⟨pb, 0, none⟩), .agg #[.int .i64 k, .int .i64 (i : Int), .int .i64 s, .int .i64 c]] w
      fun e w' => e = .returned (.int .i64 er) ∧ ∃ L' rv', PRep w' pb L' rv' p' ∧ PEv pb L L' rv rv' p.roots.length w w' := by
  unfold Pl.freshE at hl
  have h0 := h.alloc (.cells #[.int .i64 k, .int .i64 (i : Int), .int .i64 s, .int .i64 c] 78)
  have f0 : Fr (fun _ => False) w (w.alloc (.cells #[.int .i64 k, .int .i64 (i : Int), .int .i64 s, .int .i64 c] 78)) := (Fr.refl _ w).alloc _
  have a1 : (w.alloc (.cells #[.int .i64 k, .int .i64 (i : Int), .int .i64 s, .int .i64 c] 78)).cell? ⟨w.heap.size, 1, none⟩ = some (.int .i64 (i : Int)) := by rw [cell_of (al_same _ _)]; rfl
  have a2 : (w.alloc (.cells #[.int .i64 k, .int .i64 (i : Int), .int .i64 s, .int .i64 c] 78)).cell? ⟨w.heap.size, 2, none⟩ = some (.int .i64 s) := by rw [cell_of (al_same _ _)]; rfl
  have a3 : (w.alloc (.cells #[.int .i64 k, .int .i64 (i : Int), .int .i64 s, .int .i64 c] 78)).cell? ⟨w.heap.size, 3, none⟩ = some (.int .i64 c) := by rw [cell_of (al_same _ _)]; rfl
  have hblk : (w.alloc (.cells #[.int .i64 k, .int .i64 (i : Int), .int .i64 s, .int .i64 c] 78)).heap[w.heap.size]? = some (.cells #[.int .i64 k, .int .i64 (i : Int), .int .i64 s, .int .i64 c] 78) := al_same _ _
  have hpa : w.heap.size ≠ pb := by have := lt_of_block h.blk; omega
  have hla : ∀ k ∈ L.fp, k ≠ w.heap.size := fun k hk e => by have := h.rep.lt hk; omega
  have a0 : (w.alloc (.cells #[.int .i64 k, .int .i64 (i : Int), .int .i64 s, .int .i64 c] 78)).cell? ⟨w.heap.size, 0, none⟩ = some (.int .i64 k) := by rw [cell_of (al_same _ _)]; rfl
  have hiI : (i : Int) < (p.roots.length : Int) := by omega
  have c0 := h0.c0
  cases hsh : p.mem.shapeAt s with
  | none =>
    rw [hsh] at hl
    simp only [Option.some.injEq, Prod.mk.injEq] at hl
    obtain ⟨rfl, rfl⟩ := hl
    obtain ⟨sp, scap, m0⟩ := h0.rep.shv_len
    have hv : s < 0 ∨ (p.mem.shapes.length : Int) ≤ s := by
      unfold Mem.shapeAt at hsh
      by_cases h2 : 0 ≤ s
      · rw [if_pos h2] at hsh
        have := List.getElem?_eq_none_iff.1 hsh
        right; omega
      · left; omega
    clear a0 a1 a3 hblk hpa hla hsh
    by_cases h2 : s < 0
    · clear hv
      go_enter Try.func121, Try.ntmps121
      go_wp2_with (fail)
      go_quiet (fail)
      go_wp2
      go_ret
      exact ⟨rfl, L, rv, h0.drewN _, PEv.of_fr ((f0.mono fun _ _ q => q.elim).drewN _)⟩
    · have h3 : (p.mem.shapes.length : Int) ≤ s := by omega
      clear hv
      have h2' : decide (s < 0) = false := decide_eq_false h2
      go_enter Try.func121, Try.ntmps121
      go_wp2_with (fail)
      go_quiet (fail)
      go_wp2
      go_ret
      exact ⟨rfl, L, rv, h0.drewN _, PEv.of_fr ((f0.mono fun _ _ q => q.elim).drewN _)⟩
  | some l =>
    rw [hsh] at hl
    simp only at hl
    obtain ⟨hl60, hv0, hv1, sb, so, scap, sp, scap', m0, m1, -⟩ := h0.rep.shapeCell hsh
    have hs1 : decide (s < 0) = false := decide_eq_false (by omega)
    have hs2 : decide ((p.mem.shapes.length : Int) ≤ s) = false := decide_eq_false (by omega)
    have hs3 : s < (p.mem.shapes.length : Int) := hv1
    have hH := Lib.hid h
    have hBo0 : Hid (¬ pOwn pb L rv p.roots.length w.heap.size) := Lib.hid (by
      rintro (q | q | ⟨q, q'⟩)
      · exact hla _ q rfl
      · exact hpa q
      · obtain ⟨v, cap, hv, ho | ⟨g, hp, hD, hr⟩⟩ := h.out
        · rw [ho] at q; simp at q
        · rw [hv, hp] at q'
          simp only [Value.ownBlock, Option.some.injEq] at q'
          have := hr.lt; omega)
    have hlH := Lib.hid hl
    have hshH := Lib.hid hsh
    have c2 := h0.c2
    have y1 := h0.rep.c1
    have y0 := h0.rep.y.c0
    have hv2 : ¬ s < 0 := by omega
    clear h hl hsh hv1
    go_enter Try.func121, Try.ntmps121
    go_wp2_with (fail)
    generalize hB : w.heap.size = B at *
    generalize w.alloc (.cells #[.int .i64 k, .int .i64 (i : Int), .int .i64 s, .int .i64 c] 78) = W at *
    go_quiet (fail)
    change (W.drewN nq).cell? _ = _ at c0 m0 m1 c2 y1 y0 a0 a1 a2 a3
    change (W.drewN nq).heap[B]? = _ at hblk
    replace h0 := h0.drewN nq
    replace f0 := f0.drewN nq
    generalize W.drewN nq = W at *
    go_wp2_with (fail)
    go_quiet (fail)
    change (W.drewN nq).cell? _ = _ at c0 m0 m1 c2 y1 y0 a0 a1 a2 a3
    change (W.drewN nq).heap[B]? = _ at hblk
    replace h0 := h0.drewN nq
    replace f0 := f0.drewN nq
    generalize W.drewN nq = W at *
    have hrm := c_room W L.y p.mem.young h0.rep.y
    go_wp2_with (fail)
    refine hrm.mono ?_
    rintro e w1 ⟨rfl, n1, rfl⟩
    clear hrm
    change (W.drewN n1).cell? _ = _ at c0 m0 m1 c2 y1 y0 a0 a1 a2 a3
    change (W.drewN n1).heap[B]? = _ at hblk
    replace h0 := h0.drewN n1
    replace f0 := f0.drewN n1
    generalize W.drewN n1 = W at *
    by_cases hfull : p.mem.young.room < ((l.length + 1 : Nat) : Int) ∧ ((l.length + 1 : Nat) : Int) ≤ (p.mem.young.words.length : Int)
    · have hl := hlH.out
      rw [if_pos hfull] at hl
      obtain ⟨hf1, hf2⟩ := hfull
      have hf1' : p.mem.young.room < 1 + (l.length : Int) := by omega
      have hf2' : 1 + (l.length : Int) ≤ (p.mem.young.words.length : Int) := by omega
      cases hce : p.clearE with
      | none => rw [hce] at hl; cases hl
      | some q =>
        obtain ⟨p1, e⟩ := q
        rw [hce] at hl
        simp only at hl
        have hlH1 := Lib.hid hl
        have hclr := (c_pclear W pb L rv p p1 h0 hlr k (i : Int) s c e hce).mono (R' := fun e' w' => e' = .returned (.int .i64 e) ∧ ∃ L' rv', PRep w' pb L' rv' p1 ∧ PEv pb L L' rv rv' p.roots.length w w' ∧ w'.heap[B]? = some (.cells #[.int .i64 k, .int .i64 (i : Int), .int .i64 s, .int .i64 c] 78) ∧ B ∉ L'.fp)
          fun e' w' ⟨q1, L', rv', q2, q3⟩ => by
            have hBo : ¬ pOwn pb L rv p.roots.length B := hBo0.out
            refine ⟨q1, L', rv', q2, (PEv.of_fr (f0.mono fun _ _ q => q.elim)).trans q3, (q3.fr.block B (lt_of_block hblk) hBo).trans hblk, fun q => ?_⟩
            rcases q3.own B (.inl q) with q | q
            · exact hBo q
            · have := lt_of_block hblk; omega
        have hce' := Lib.hid hce
        clear hf1 hf2 hce hl hlH
        go_wp2_with (fail)
        refine hclr.mono ?_
        rintro e' W1 ⟨rfl, L1, rv1, h1, e1, hblk, hB1⟩
        clear hclr h0 f0 c0 m0 m1 c2 y1 y0 a0 a1 a2 a3 hf1' hf2'
        by_cases he : e = 0
        · subst he
          have hl := hlH1.out
          rw [if_neg (by simp)] at hl
          simp only [Option.some.injEq] at hl
          have hp' : p' = (p1.made i s).1 := by rw [hl]
          have her : er = (p1.made i s).2 := by rw [hl]
          clear hl hlH1
          have a1 : W1.cell? ⟨B, 1, none⟩ = some (.int .i64 (i : Int)) := by rw [cell_of hblk]; rfl
          have a2 : W1.cell? ⟨B, 2, none⟩ = some (.int .i64 s) := by rw [cell_of hblk]; rfl
          have hln : p1.roots.length = p.roots.length := Pl.clearE_len hce'.out
          have hi1 : i < p1.roots.length := by omega
          have hln := Lib.hid hln
          have hiI1 : (i : Int) < (p1.roots.length : Int) := by omega
          have hst := (c_Alloc W1.drew L1 p1.mem h1.rep.drew s).mono (R' := fun e w' => e = .returned (.tuple #[.int .i64 (p1.mem.allocE s).2.1, .int .i64 (p1.mem.allocE s).2.2]) ∧ PRep w' pb L1 rv1 ⟨(p1.mem.allocE s).1, p1.roots⟩ ∧
              PEv pb L L1 rv rv1 p.roots.length w w' ∧ w'.cell? ⟨B, 1, none⟩ = some (.int .i64 (i : Int)) ∧ w'.cell? ⟨B, 2, none⟩ = some (.int .i64 s) ∧
              w'.cell? ⟨pb, 0, none⟩ = some (.pointer (some ⟨(L1).b, 0, none⟩)))
            fun e w' ⟨q1, q2, q3⟩ => by
              have hq := h1.drew.ev q2 (Ev.of_fr q3)
              exact ⟨q1, hq, e1.trans ((PEv.of_fr ((Fr.refl _ _).drew)).trans (PEv.of_ev (Ev.of_fr q3))), q3.cell a1 hB1, q3.cell a2 hB1, hq.c0⟩
          have k0 := h1.c0
          have hfin : p1.made i s = (if (p1.mem.allocE s).2.2 = 0 then (⟨(p1.mem.allocE s).1, p1.roots⟩ : Pl).put i (p1.mem.allocE s).2.1 else ⟨(p1.mem.allocE s).1, p1.roots⟩, (p1.mem.allocE s).2.2) := rfl
          generalize hv : (p1.mem.allocE s).2.1 = v at *
          generalize he1 : (p1.mem.allocE s).2.2 = e2 at *
          rw [hfin] at hp' her
          simp only at hp' her
          subst her
          have hpH := Lib.hid hp'
          clear hfin hv he1 h1 hp'
          go_wp2_with (fail)
          go_region_held3 (fun w' => w'.cell? ⟨B, 2, none⟩ = some (.int .i64 s) ∧ w'.cell? ⟨pb, 0, none⟩ = some (.pointer (some ⟨(L1).b, 0, none⟩))) (go_keep)
            (((with_reducible refine hst.mono ?_); rintro e w1 ⟨rfl, h2, e3, b1, b2, k0⟩))
          all_goals
            clear hst
            by_cases he2 : er = 0
            · subst he2
              obtain ⟨g, cap, hrv, hc2, hz2, -⟩ := h2.root (i := i) hi1
              have k1 := h2.c1
              rw [hrv] at k1
              have hrvH := Lib.hid hrv
              clear k0 b2 hrv
              go_wp2_with (fail)
              refine wp_region_still_tail 8 (by kernel_rfl) (by kernel_rfl) ?_
              show wpStill _ _ (w1.drew) (fun a' => wpList _ _ _ _ a' (w1.drew)) _ _
              simp only [List.take_succ_cons, List.take_zero, List.drop_succ_cons, List.drop_zero]
              repeat still_step
              refine wpStill_nil ?_
              have h3 := h2.drew
              rw [hrvH.out] at h3
              have hs := PRep.setRoot (p := ⟨(p1.mem.allocE s).1, p1.roots⟩) h3 (i := i) hi1 v
              have hc3 : w1.drew.cell? ⟨g, i, none⟩ = _ := hc2
              have hz3 : w1.drew.frozen? ⟨g, i, none⟩ = false := hz2
              have e4 := e3.trans (PEv.of_fr ((Fr.refl _ _).drew))
              clear hc2 hz2 k1 b1 h2 e3 h3
              generalize w1.drew = w2 at *
              go_wp2
              go_ret
              refine ⟨rfl, L1, .slice (some ⟨g, 0, none⟩) p1.roots.length cap, by rw [hpH.out]; simp only [if_true]; exact hs.1, e4.trans ?_⟩
              rw [hrvH.out]; have q := hs.2; first | exact q | (rw [hln.out] at q; first | exact q | (rw [hln.out]; exact q))
            · have he2' : ((er : Int) == 0) = false := by simpa using he2
              go_wp2
              go_ret
              exact ⟨rfl, L1, _, by rw [hpH.out]; first | (rw [if_neg he2]; exact h2) | (simp only [if_false]; exact h2), e3⟩
        · have hl := hlH1.out
          rw [if_pos he] at hl
          simp only [Option.some.injEq, Prod.mk.injEq] at hl
          obtain ⟨rfl, rfl⟩ := hl
          have he' : ((e : Int) != 0) = true := by simpa using he
          clear hlH1
          go_wp2
          go_ret
          exact ⟨rfl, L1, rv1, h1, e1⟩
    · have hl := hlH.out
      rw [if_neg hfull] at hl
      simp only [ne_eq, not_true_eq_false, if_false, Option.some.injEq] at hl
      have hp' : p' = (p.made i s).1 := by rw [hl]
      have her : er = (p.made i s).2 := by rw [hl]
      clear hl hlH
      have hfull' : p.mem.young.room < 1 + (l.length : Int) → ¬ 1 + (l.length : Int) ≤ (p.mem.young.words.length : Int) := fun q q' => hfull ⟨by omega, by omega⟩
      clear hfull
      have hln := Lib.hid (show p.roots.length = p.roots.length from rfl)
      have hi1 : i < p.roots.length := hi
      have hB1 : B ∉ L.fp := fun q => hla _ q rfl
      have e1 : PEv pb L L rv rv p.roots.length w W := PEv.of_fr (f0.mono fun _ _ q => q.elim)
      have h1 := h0
      clear h0 f0 hpa hla hblk
      by_cases hf1 : p.mem.young.room < 1 + (l.length : Int)
      · have hf2 := hfull' hf1
        clear hfull' a0 a3 m0 m1
        have hst := (c_Alloc W.drew L p.mem h1.rep.drew s).mono (R' := fun e w' => e = .returned (.tuple #[.int .i64 (p.mem.allocE s).2.1, .int .i64 (p.mem.allocE s).2.2]) ∧ PRep w' pb L rv ⟨(p.mem.allocE s).1, p.roots⟩ ∧
            PEv pb L L rv rv p.roots.length w w' ∧ w'.cell? ⟨B, 1, none⟩ = some (.int .i64 (i : Int)) ∧ w'.cell? ⟨B, 2, none⟩ = some (.int .i64 s) ∧
            w'.cell? ⟨pb, 0, none⟩ = some (.pointer (some ⟨(L).b, 0, none⟩)))
          fun e w' ⟨q1, q2, q3⟩ => by
            have hq := h1.drew.ev q2 (Ev.of_fr q3)
            exact ⟨q1, hq, e1.trans ((PEv.of_fr ((Fr.refl _ _).drew)).trans (PEv.of_ev (Ev.of_fr q3))), q3.cell a1 hB1, q3.cell a2 hB1, hq.c0⟩
        have k0 := h1.c0
        have hfin : p.made i s = (if (p.mem.allocE s).2.2 = 0 then (⟨(p.mem.allocE s).1, p.roots⟩ : Pl).put i (p.mem.allocE s).2.1 else ⟨(p.mem.allocE s).1, p.roots⟩, (p.mem.allocE s).2.2) := rfl
        generalize hv : (p.mem.allocE s).2.1 = v at *
        generalize he1 : (p.mem.allocE s).2.2 = e2 at *
        rw [hfin] at hp' her
        simp only at hp' her
        subst her
        have hpH := Lib.hid hp'
        clear hfin hv he1 h1 hp'
        go_wp2_with (fail)
        go_region_held3 (fun w' => w'.cell? ⟨B, 2, none⟩ = some (.int .i64 s) ∧ w'.cell? ⟨pb, 0, none⟩ = some (.pointer (some ⟨(L).b, 0, none⟩))) (go_keep)
          (((with_reducible refine hst.mono ?_); rintro e w1 ⟨rfl, h2, e3, b1, b2, k0⟩))
        all_goals
          clear hst
          by_cases he2 : er = 0
          · subst he2
            obtain ⟨g, cap, hrv, hc2, hz2, -⟩ := h2.root (i := i) hi1
            have k1 := h2.c1
            rw [hrv] at k1
            have hrvH := Lib.hid hrv
            clear k0 b2 hrv
            go_wp2_with (fail)
            refine wp_region_still_tail 8 (by kernel_rfl) (by kernel_rfl) ?_
            show wpStill _ _ (w1.drew) (fun a' => wpList _ _ _ _ a' (w1.drew)) _ _
            simp only [List.take_succ_cons, List.take_zero, List.drop_succ_cons, List.drop_zero]
            repeat still_step
            refine wpStill_nil ?_
            have h3 := h2.drew
            rw [hrvH.out] at h3
            have hs := PRep.setRoot (p := ⟨(p.mem.allocE s).1, p.roots⟩) h3 (i := i) hi1 v
            have hc3 : w1.drew.cell? ⟨g, i, none⟩ = _ := hc2
            have hz3 : w1.drew.frozen? ⟨g, i, none⟩ = false := hz2
            have e4 := e3.trans (PEv.of_fr ((Fr.refl _ _).drew))
            clear hc2 hz2 k1 b1 h2 e3 h3
            generalize w1.drew = w2 at *
            go_wp2
            go_ret
            refine ⟨rfl, L, .slice (some ⟨g, 0, none⟩) p.roots.length cap, by rw [hpH.out]; simp only [if_true]; exact hs.1, e4.trans ?_⟩
            rw [hrvH.out]; have q := hs.2; first | exact q | (rw [hln.out] at q; first | exact q | (rw [hln.out]; exact q))
          · have he2' : ((er : Int) == 0) = false := by simpa using he2
            go_wp2
            go_ret
            exact ⟨rfl, L, _, by rw [hpH.out]; first | (rw [if_neg he2]; exact h2) | (simp only [if_false]; exact h2), e3⟩
      · clear hfull' a0 a3 m0 m1 y1 y0
        have hst := (c_Alloc W.drew L p.mem h1.rep.drew s).mono (R' := fun e w' => e = .returned (.tuple #[.int .i64 (p.mem.allocE s).2.1, .int .i64 (p.mem.allocE s).2.2]) ∧ PRep w' pb L rv ⟨(p.mem.allocE s).1, p.roots⟩ ∧
            PEv pb L L rv rv p.roots.length w w' ∧ w'.cell? ⟨B, 1, none⟩ = some (.int .i64 (i : Int)) ∧ w'.cell? ⟨B, 2, none⟩ = some (.int .i64 s) ∧
            w'.cell? ⟨pb, 0, none⟩ = some (.pointer (some ⟨(L).b, 0, none⟩)))
          fun e w' ⟨q1, q2, q3⟩ => by
            have hq := h1.drew.ev q2 (Ev.of_fr q3)
            exact ⟨q1, hq, e1.trans ((PEv.of_fr ((Fr.refl _ _).drew)).trans (PEv.of_ev (Ev.of_fr q3))), q3.cell a1 hB1, q3.cell a2 hB1, hq.c0⟩
        have k0 := h1.c0
        have hfin : p.made i s = (if (p.mem.allocE s).2.2 = 0 then (⟨(p.mem.allocE s).1, p.roots⟩ : Pl).put i (p.mem.allocE s).2.1 else ⟨(p.mem.allocE s).1, p.roots⟩, (p.mem.allocE s).2.2) := rfl
        generalize hv : (p.mem.allocE s).2.1 = v at *
        generalize he1 : (p.mem.allocE s).2.2 = e2 at *
        rw [hfin] at hp' her
        simp only at hp' her
        subst her
        have hpH := Lib.hid hp'
        clear hfin hv he1 h1 hp'
        go_wp2_with (fail)
        go_region_held3 (fun w' => w'.cell? ⟨B, 2, none⟩ = some (.int .i64 s) ∧ w'.cell? ⟨pb, 0, none⟩ = some (.pointer (some ⟨(L).b, 0, none⟩))) (go_keep)
          (((with_reducible refine hst.mono ?_); rintro e w1 ⟨rfl, h2, e3, b1, b2, k0⟩))
        all_goals
          clear hst
          by_cases he2 : er = 0
          · subst he2
            obtain ⟨g, cap, hrv, hc2, hz2, -⟩ := h2.root (i := i) hi1
            have k1 := h2.c1
            rw [hrv] at k1
            have hrvH := Lib.hid hrv
            clear k0 b2 hrv
            go_wp2_with (fail)
            refine wp_region_still_tail 8 (by kernel_rfl) (by kernel_rfl) ?_
            show wpStill _ _ (w1.drew) (fun a' => wpList _ _ _ _ a' (w1.drew)) _ _
            simp only [List.take_succ_cons, List.take_zero, List.drop_succ_cons, List.drop_zero]
            repeat still_step
            refine wpStill_nil ?_
            have h3 := h2.drew
            rw [hrvH.out] at h3
            have hs := PRep.setRoot (p := ⟨(p.mem.allocE s).1, p.roots⟩) h3 (i := i) hi1 v
            have hc3 : w1.drew.cell? ⟨g, i, none⟩ = _ := hc2
            have hz3 : w1.drew.frozen? ⟨g, i, none⟩ = false := hz2
            have e4 := e3.trans (PEv.of_fr ((Fr.refl _ _).drew))
            clear hc2 hz2 k1 b1 h2 e3 h3
            generalize w1.drew = w2 at *
            go_wp2
            go_ret
            refine ⟨rfl, L, .slice (some ⟨g, 0, none⟩) p.roots.length cap, by rw [hpH.out]; simp only [if_true]; exact hs.1, e4.trans ?_⟩
            rw [hrvH.out]; have q := hs.2; first | exact q | (rw [hln.out] at q; first | exact q | (rw [hln.out]; exact q))
          · have he2' : ((er : Int) == 0) = false := by simpa using he2
            go_wp2
            go_ret
            exact ⟨rfl, L, _, by rw [hpH.out]; first | (rw [if_neg he2]; exact h2) | (simp only [if_false]; exact h2), e3⟩
end Go.Proofs.Ytnedmmopkhmejaa
