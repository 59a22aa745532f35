/- Walks of the player: get, set, put. -/
import Derived.Test.YtnedmmopkhmejaaKHA2
set_option linter.unusedVariables false
set_option linter.unusedSimpArgs false
namespace Go.Proofs.Hp
namespace Pl
def getA (p : Pl) (i j : Nat) (f : Int) : Option (Pl × Int) :=
  match p.refersE j f true with
  | none => none
  | some e => if e ≠ 0 then some (p, e) else (p.mem.getE (p.root j) f).map fun r => (if r.2.2 = 0 then (⟨r.1, p.roots⟩ : Pl).put i r.2.1 else ⟨r.1, p.roots⟩, r.2.2)
def setA (p : Pl) (i : Nat) (want : Bool) (v f : Int) : Option (Pl × Int) :=
  match p.refersE i f want with
  | none => none
  | some e => if e ≠ 0 then some (p, e) else (p.mem.setE (p.root i) f v).map fun r => (⟨r.1, p.roots⟩, r.2)
end Pl
end Go.Proofs.Hp
namespace Go.Proofs.Ytnedmmopkhmejaa
open Go.RowKit Go.Proofs.Hp
attribute [local go_sem] Oper.semAt_some

set_option maxRecDepth 100000 in
set_option maxHeartbeats 2000000 in
theorem c_pget (w : World) (pb : Nat) (L : ML) (rv : Value) (p p' : Pl) (h : PRep w pb L rv p) (k f er : Int) (i j : Nat) (hi : i < p.roots.length) (hj : j < p.roots.length) (hl : p.getA i j f = some (p', er)) :
    Calls Try.prog 122 #[.pointer (some ⟨pb, 0, none⟩), .agg #[.int .i64 k, .int .i64 (i : Int), .int .i64 (j : Int), .int .i64 f]] w
      fun e w' => e = .returned (.int .i64 er) ∧ PRep w' pb L rv p' ∧ PEv pb L L rv rv p.roots.length w w' := by
  unfold Pl.getA at hl
  cases hrf : p.refersE j f true with
  | none => rw [hrf] at hl; cases hl
  | some e =>
    rw [hrf] at hl
    simp only at hl
    have h0 := h.alloc (.cells #[.int .i64 k, .int .i64 (i : Int), .int .i64 (j : Int), .int .i64 f] 78)
    have f0 : Fr (fun _ => False) w (w.alloc (.cells #[.int .i64 k, .int .i64 (i : Int), .int .i64 (j : Int), .int .i64 f] 78)) := (Fr.refl _ w).alloc _
    have a1 : (w.alloc (.cells #[.int .i64 k, .int .i64 (i : Int), .int .i64 (j : Int), .int .i64 f] 78)).cell? ⟨w.heap.size, 1, none⟩ = some (.int .i64 (i : Int)) := by rw [cell_of (al_same _ _)]; rfl
    have a2 : (w.alloc (.cells #[.int .i64 k, .int .i64 (i : Int), .int .i64 (j : Int), .int .i64 f] 78)).cell? ⟨w.heap.size, 2, none⟩ = some (.int .i64 (j : Int)) := by rw [cell_of (al_same _ _)]; rfl
    have a3 : (w.alloc (.cells #[.int .i64 k, .int .i64 (i : Int), .int .i64 (j : Int), .int .i64 f] 78)).cell? ⟨w.heap.size, 3, none⟩ = some (.int .i64 f) := by rw [cell_of (al_same _ _)]; rfl
    have hblk : (w.alloc (.cells #[.int .i64 k, .int .i64 (i : Int), .int .i64 (j : Int), .int .i64 f] 78)).heap[w.heap.size]? = some (.cells #[.int .i64 k, .int .i64 (i : Int), .int .i64 (j : Int), .int .i64 f] 78) := al_same _ _
    have hpa : w.heap.size ≠ pb := by have := lt_of_block h.blk; omega
    have hla : ∀ k ∈ L.fp, k ≠ w.heap.size := fun k hk e => by have := h.rep.lt hk; omega
    have hrs := c_prefers _ pb L rv p h0 j hj f true e hrf
    by_cases he : e = 0
    · subst he
      rw [if_neg (by simp)] at hl
      cases hg : p.mem.getE (p.root j) f with
      | none => rw [hg] at hl; cases hl
      | some r =>
        obtain ⟨m', v, e1⟩ := r
        rw [hg] at hl
        simp only [Option.map_some, Option.some.injEq] at hl
        have he0 : e1 = er := (congrArg Prod.snd hl)
        subst he0
        have hp' : p' = _ := (congrArg Prod.fst hl).symm
        simp only at hp'
        subst hp'
        clear hl hrf
        obtain ⟨g, cap, rfl, hc, hz, -⟩ := h.root hi
        obtain ⟨g', cap', eq1, hcj, -, hgf, -⟩ := h.root hj
        simp only [Value.slice.injEq, Option.some.injEq, Addr.mk.injEq] at eq1
        obtain ⟨⟨rfl, -⟩, -, rfl⟩ := eq1
        have hiI : (i : Int) < (p.roots.length : Int) := by omega
        have hjI : (j : Int) < (p.roots.length : Int) := by omega
        replace hrs := hrs.mono (R' := fun e w' => e = .returned (.int .i64 0) ∧ PRep w' pb L (.slice (some ⟨g, 0, none⟩) p.roots.length cap) p ∧ w'.heap[w.heap.size]? = some (.cells #[.int .i64 k, .int .i64 (i : Int), .int .i64 (j : Int), .int .i64 f] 78) ∧ Fr (fun _ => False) w w')
          fun e w' ⟨q1, q2⟩ => ⟨q1, h0.below q2, (q2.block _ (lt_of_block hblk)).trans hblk, f0.trans (Fr.of_below q2)⟩
        clear hblk hpa hla
        go_enter Try.func122, Try.ntmps122
        go_wp2_with (fail)
        generalize hB : w.heap.size = B at *
        generalize w.alloc (.cells #[.int .i64 k, .int .i64 (i : Int), .int .i64 (j : Int), .int .i64 f] 78) = W at *
        refine hrs.mono ?_
        rintro e W1 ⟨rfl, h1, hblk, f1⟩
        clear hrs h0 f0 a1 a2 a3
        have a1 : W1.cell? ⟨B, 1, none⟩ = some (.int .i64 (i : Int)) := by rw [cell_of hblk]; rfl
        have a2 : W1.cell? ⟨B, 2, none⟩ = some (.int .i64 (j : Int)) := by rw [cell_of hblk]; rfl
        have a3 : W1.cell? ⟨B, 3, none⟩ = some (.int .i64 f) := by rw [cell_of hblk]; rfl
        have c0 := h1.c0
        have c1 := h1.c1
        have hcj1 := f1.cell hcj id
        have hst := (c_Get W1.drew L p.mem m' h1.rep.drew (p.root j) f v e1 hg).mono (R' := fun e w' => e = .returned (.tuple #[.int .i64 v, .int .i64 e1]) ∧ PRep w' pb L (.slice (some ⟨g, 0, none⟩) p.roots.length cap) ⟨m', p.roots⟩ ∧
            PEv pb L L (.slice (some ⟨g, 0, none⟩) p.roots.length cap) (.slice (some ⟨g, 0, none⟩) p.roots.length cap) p.roots.length w w' ∧ w'.cell? ⟨B, 1, none⟩ = some (.int .i64 (i : Int)) ∧ w'.cell? ⟨B, 2, none⟩ = some (.int .i64 (j : Int)) ∧ w'.cell? ⟨B, 3, none⟩ = some (.int .i64 f) ∧
            w'.cell? ⟨pb, 0, none⟩ = some (.pointer (some ⟨L.b, 0, none⟩)) ∧ w'.cell? ⟨pb, 1, none⟩ = some (.slice (some ⟨g, 0, none⟩) p.roots.length cap) ∧ w'.cell? ⟨g, j, none⟩ = some (.int .i64 (p.root j)))
          fun e w' ⟨q1, q2, q3⟩ => by
            have hq := h1.drew.ev q2 (Ev.of_fr q3)
            have hBf : B ∉ L.fp := fun q => by have := h.rep.lt q; omega
            exact ⟨q1, hq, (PEv.of_fr (f1.drew.mono fun _ _ q => q.elim)).trans (PEv.of_ev (Ev.of_fr q3)), q3.cell a1 hBf, q3.cell a2 hBf, q3.cell a3 hBf, hq.c0, hq.c1, q3.cell hcj1 hgf⟩
        have hH := Lib.hid h
        clear h h1 f1 hc hz hcj hg hblk
        go_wp2_with (fail)
        go_region_held3 (fun w' => w'.cell? ⟨B, 2, none⟩ = some (.int .i64 (j : Int)) ∧ w'.cell? ⟨B, 3, none⟩ = some (.int .i64 f) ∧ w'.cell? ⟨pb, 0, none⟩ = some (.pointer (some ⟨L.b, 0, none⟩)) ∧ w'.cell? ⟨pb, 1, none⟩ = some (.slice (some ⟨g, 0, none⟩) p.roots.length cap) ∧ w'.cell? ⟨g, j, none⟩ = some (.int .i64 (p.root j))) (go_keep)
          (((with_reducible refine hst.mono ?_); rintro e w1 ⟨rfl, h2, e2, b1, b2, b3, k0, k1, kj⟩))
        all_goals
          clear hst hcj1 c0 c1 a1 a2 a3
          by_cases he1 : e1 = 0
          · subst he1
            obtain ⟨g2, cap2, eq2, hc2, hz2, -⟩ := h2.root (i := i) hi
            simp only [Value.slice.injEq, Option.some.injEq, Addr.mk.injEq] at eq2
            obtain ⟨⟨rfl, -⟩, -, rfl⟩ := eq2
            clear k0 b2 b3 kj
            go_wp2_with (fail)
            refine wp_region_still_tail 8 (by kernel_rfl) (by kernel_rfl) ?_
            show wpStill _ _ (w1.drew) (fun a' => wpList _ _ _ _ a' (w1.drew)) _ _
            simp only [List.take_succ_cons, List.take_zero, List.drop_succ_cons, List.drop_zero]
            repeat still_step
            refine wpStill_nil ?_
            have hs := PRep.setRoot (p := ⟨m', p.roots⟩) h2.drew (i := i) hi v
            have hc3 : w1.drew.cell? ⟨g, i, none⟩ = _ := hc2
            have hz3 : w1.drew.frozen? ⟨g, i, none⟩ = false := hz2
            have e3 : PEv pb L L (.slice (some ⟨g, 0, none⟩) p.roots.length cap) (.slice (some ⟨g, 0, none⟩) p.roots.length cap) p.roots.length w w1.drew := e2.trans (PEv.of_fr ((Fr.refl _ _).drew))
            clear hc2 hz2 k1 b1 h2 e2
            generalize w1.drew = w2 at *
            go_wp2
            go_ret
            exact ⟨rfl, by first | exact hs.1 | (rw [if_pos rfl]; exact hs.1), e3.trans hs.2⟩
          · have he1' : ((e1 : Int) == 0) = false := by simpa using he1
            go_wp2
            go_ret
            exact ⟨rfl, h2, e2⟩
    · rw [if_pos he] at hl
      simp only [Option.some.injEq, Prod.mk.injEq] at hl
      obtain ⟨rfl, rfl⟩ := hl
      have he' : ((e : Int) != 0) = true := by simpa using he
      clear hrf hblk hpa hla
      replace hrs := hrs.mono (R' := fun e' w' => e' = .returned (.int .i64 e) ∧ PRep w' pb L rv p ∧ Fr (fun _ => False) w w') fun e w' ⟨q1, q2⟩ => ⟨q1, h0.below q2, f0.trans (Fr.of_below q2)⟩
      go_enter Try.func122, Try.ntmps122
      go_wp2_with (fail)
      refine hrs.mono ?_
      rintro e W1 ⟨rfl, h1, f1⟩
      clear hrs h0 f0 a1 a2 a3
      go_wp2
      go_ret
      exact ⟨rfl, h1, PEv.of_fr (f1.mono fun _ _ q => q.elim)⟩

set_option maxRecDepth 100000 in
set_option maxHeartbeats 2000000 in
theorem c_pset (w : World) (pb : Nat) (L : ML) (rv : Value) (p p' : Pl) (h : PRep w pb L rv p) (k f er : Int) (i j : Nat) (hi : i < p.roots.length) (hj : j < p.roots.length) (hl : p.setA i true (p.root j) f = some (p', er)) :
    Calls Try.prog 123 #[.pointer (some ⟨pb, 0, none⟩), .agg #[.int .i64 k, .int .i64 (i : Int), .int .i64 (j : Int), .int .i64 f]] w
      fun e w' => e = .returned (.int .i64 er) ∧ ∃ L', PRep w' pb L' rv p' ∧ PEv pb L L' rv rv p.roots.length w w' := by
  unfold Pl.setA at hl
  cases hrf : p.refersE i f true with
  | none => rw [hrf] at hl; cases hl
  | some e =>
    rw [hrf] at hl
    simp only at hl
    have h0 := h.alloc (.cells #[.int .i64 k, .int .i64 (i : Int), .int .i64 (j : Int), .int .i64 f] 78)
    have f0 : Fr (fun _ => False) w (w.alloc (.cells #[.int .i64 k, .int .i64 (i : Int), .int .i64 (j : Int), .int .i64 f] 78)) := (Fr.refl _ w).alloc _
    have a1 : (w.alloc (.cells #[.int .i64 k, .int .i64 (i : Int), .int .i64 (j : Int), .int .i64 f] 78)).cell? ⟨w.heap.size, 1, none⟩ = some (.int .i64 (i : Int)) := by rw [cell_of (al_same _ _)]; rfl
    have a2 : (w.alloc (.cells #[.int .i64 k, .int .i64 (i : Int), .int .i64 (j : Int), .int .i64 f] 78)).cell? ⟨w.heap.size, 2, none⟩ = some (.int .i64 (j : Int)) := by rw [cell_of (al_same _ _)]; rfl
    have a3 : (w.alloc (.cells #[.int .i64 k, .int .i64 (i : Int), .int .i64 (j : Int), .int .i64 f] 78)).cell? ⟨w.heap.size, 3, none⟩ = some (.int .i64 f) := by rw [cell_of (al_same _ _)]; rfl
    have hblk : (w.alloc (.cells #[.int .i64 k, .int .i64 (i : Int), .int .i64 (j : Int), .int .i64 f] 78)).heap[w.heap.size]? = some (.cells #[.int .i64 k, .int .i64 (i : Int), .int .i64 (j : Int), .int .i64 f] 78) := al_same _ _
    have hpa : w.heap.size ≠ pb := by have := lt_of_block h.blk; omega
    have hla : ∀ k ∈ L.fp, k ≠ w.heap.size := fun k hk e => by have := h.rep.lt hk; omega
    have hrs := c_prefers _ pb L rv p h0 i hi f true e hrf
    by_cases he : e = 0
    · subst he
      rw [if_neg (by simp)] at hl
      cases hg : p.mem.setE (p.root i) f (p.root j) with
      | none => rw [hg] at hl; cases hl
      | some r =>
        obtain ⟨m', e1⟩ := r
        rw [hg] at hl
        simp only [Option.map_some, Option.some.injEq, Prod.mk.injEq] at hl
        obtain ⟨rfl, rfl⟩ := hl
        clear hrf
        obtain ⟨g, cap, rfl, hc, -⟩ := h.root hi
        obtain ⟨g', cap', eq1, hcj, -⟩ := h.root hj; simp only [Value.slice.injEq, Option.some.injEq, Addr.mk.injEq] at eq1; obtain ⟨⟨rfl, -⟩, -, rfl⟩ := eq1; have hjI : (j : Int) < (p.roots.length : Int) := by omega
        have hiI : (i : Int) < (p.roots.length : Int) := by omega
        replace hrs := hrs.mono (R' := fun e w' => e = .returned (.int .i64 0) ∧ PRep w' pb L (.slice (some ⟨g, 0, none⟩) p.roots.length cap) p ∧ w'.heap[w.heap.size]? = some (.cells #[.int .i64 k, .int .i64 (i : Int), .int .i64 (j : Int), .int .i64 f] 78) ∧ Fr (fun _ => False) w w')
          fun e w' ⟨q1, q2⟩ => ⟨q1, h0.below q2, (q2.block _ (lt_of_block hblk)).trans hblk, f0.trans (Fr.of_below q2)⟩
        clear hblk hpa hla
        go_enter Try.func123, Try.ntmps123
        go_wp2_with (fail)
        generalize hB : w.heap.size = B at *
        generalize w.alloc (.cells #[.int .i64 k, .int .i64 (i : Int), .int .i64 (j : Int), .int .i64 f] 78) = W at *
        refine hrs.mono ?_
        rintro e W1 ⟨rfl, h1, hblk, f1⟩
        clear hrs h0 f0 a1 a2 a3
        have a1 : W1.cell? ⟨B, 1, none⟩ = some (.int .i64 (i : Int)) := by rw [cell_of hblk]; rfl
        have a2 : W1.cell? ⟨B, 2, none⟩ = some (.int .i64 (j : Int)) := by rw [cell_of hblk]; rfl
        have a3 : W1.cell? ⟨B, 3, none⟩ = some (.int .i64 f) := by rw [cell_of hblk]; rfl
        have c0 := h1.c0
        have c1 := h1.c1
        have hc1 := f1.cell hc id
        have hcj1 := f1.cell hcj id; clear hcj
        have hst := (c_Set W1.drew L p.mem m' h1.rep.drew (p.root i) f (p.root j) e1 hg).mono (R' := fun e w' => e = .returned (.int .i64 e1) ∧ ∃ L', PRep w' pb L' (.slice (some ⟨g, 0, none⟩) p.roots.length cap) ⟨m', p.roots⟩ ∧
            PEv pb L L' (.slice (some ⟨g, 0, none⟩) p.roots.length cap) (.slice (some ⟨g, 0, none⟩) p.roots.length cap) p.roots.length w w')
          fun e w' ⟨L', q1, q2, q3⟩ => ⟨q1, L', h1.drew.ev q2 q3, (PEv.of_fr (f1.drew.mono fun _ _ q => q.elim)).trans (PEv.of_ev q3)⟩
        have hH := Lib.hid h
        clear h h1 f1 hc hg hblk
        go_wp2_with (fail)
        refine wp_region_still_tail 22 (by kernel_rfl) (by kernel_rfl) ?_
        show wpStill _ _ (W1.drew) (fun a' => wpList _ _ _ _ a' (W1.drew)) _ _
        simp only [List.take_succ_cons, List.take_zero, List.drop_succ_cons, List.drop_zero]
        repeat still_step
        refine wpStill_nil ?_
        clear c0 c1 a1 a2 a3 hc1
        generalize W1.drew = W2 at *
        go_wp2_with (fail)
        refine hst.mono ?_
        rintro e w1 ⟨rfl, L', h2, e2⟩
        go_wp2
        go_ret
        exact ⟨rfl, L', h2, e2⟩
    · rw [if_pos he] at hl
      simp only [Option.some.injEq, Prod.mk.injEq] at hl
      obtain ⟨rfl, rfl⟩ := hl
      have he' : ((e : Int) != 0) = true := by simpa using he
      clear hrf hblk hpa hla
      replace hrs := hrs.mono (R' := fun e' w' => e' = .returned (.int .i64 e) ∧ PRep w' pb L rv p ∧ Fr (fun _ => False) w w') fun e w' ⟨q1, q2⟩ => ⟨q1, h0.below q2, f0.trans (Fr.of_below q2)⟩
      go_enter Try.func123, Try.ntmps123
      go_wp2_with (fail)
      refine hrs.mono ?_
      rintro e W1 ⟨rfl, h1, f1⟩
      clear hrs h0 f0 a1 a2 a3
      go_wp2
      go_ret
      exact ⟨rfl, L, h1, PEv.of_fr (f1.mono fun _ _ q => q.elim)⟩

set_option maxRecDepth 100000 in
set_option maxHeartbeats 2000000 in
theorem c_pput (w : World) (pb : Nat) (L : ML) (rv : Value) (p p' : Pl) (h : PRep w pb L rv p) (k f er : Int) (i : Nat) (v : Int) (hi : i < p.roots.length) (hl : p.setA i false v f = some (p', er)) :
    Calls Try.prog 124 #[.pointer (some ⟨pb, 0, none⟩), .agg #[.int .i64 k, .int .i64 (i : Int), .int .i64 v, .int .i64 f]] w
      fun e w' => e = .returned (.int .i64 er) ∧ ∃ L', PRep w' pb L' rv p' ∧ PEv pb L L' rv rv p.roots.length w w' := by
  unfold Pl.setA at hl
  cases hrf : p.refersE i f false with
  | none => rw [hrf] at hl; cases hl
  | some e =>
    rw [hrf] at hl
    simp only at hl
    have h0 := h.alloc (.cells #[.int .i64 k, .int .i64 (i : Int), .int .i64 v, .int .i64 f] 78)
    have f0 : Fr (fun _ => False) w (w.alloc (.cells #[.int .i64 k, .int .i64 (i : Int), .int .i64 v, .int .i64 f] 78)) := (Fr.refl _ w).alloc _
    have a1 : (w.alloc (.cells #[.int .i64 k, .int .i64 (i : Int), .int .i64 v, .int .i64 f] 78)).cell? ⟨w.heap.size, 1, none⟩ = some (.int .i64 (i : Int)) := by rw [cell_of (al_same _ _)]; rfl
    have a2 : (w.alloc (.cells #[.int .i64 k, .int .i64 (i : Int), .int .i64 v, .int .i64 f] 78)).cell? ⟨w.heap.size, 2, none⟩ = some (.int .i64 v) := by rw [cell_of (al_same _ _)]; rfl
    have a3 : (w.alloc (.cells #[.int .i64 k, .int .i64 (i : Int), .int .i64 v, .int .i64 f] 78)).cell? ⟨w.heap.size, 3, none⟩ = some (.int .i64 f) := by rw [cell_of (al_same _ _)]; rfl
    have hblk : (w.alloc (.cells #[.int .i64 k, .int .i64 (i : Int), .int .i64 v, .int .i64 f] 78)).heap[w.heap.size]? = some (.cells #[.int .i64 k, .int .i64 (i : Int), .int .i64 v, .int .i64 f] 78) := al_same _ _
    have hpa : w.heap.size ≠ pb := by have := lt_of_block h.blk; omega
    have hla : ∀ k ∈ L.fp, k ≠ w.heap.size := fun k hk e => by have := h.rep.lt hk; omega
    have hrs := c_prefers _ pb L rv p h0 i hi f false e hrf
    by_cases he : e = 0
    · subst he
      rw [if_neg (by simp)] at hl
      cases hg : p.mem.setE (p.root i) f v with
      | none => rw [hg] at hl; cases hl
      | some r =>
        obtain ⟨m', e1⟩ := r
        rw [hg] at hl
        simp only [Option.map_some, Option.some.injEq, Prod.mk.injEq] at hl
        obtain ⟨rfl, rfl⟩ := hl
        clear hrf
        obtain ⟨g, cap, rfl, hc, -⟩ := h.root hi
        skip
        have hiI : (i : Int) < (p.roots.length : Int) := by omega
        replace hrs := hrs.mono (R' := fun e w' => e = .returned (.int .i64 0) ∧ PRep w' pb L (.slice (some ⟨g, 0, none⟩) p.roots.length cap) p ∧ w'.heap[w.heap.size]? = some (.cells #[.int .i64 k, .int .i64 (i : Int), .int .i64 v, .int .i64 f] 78) ∧ Fr (fun _ => False) w w')
          fun e w' ⟨q1, q2⟩ => ⟨q1, h0.below q2, (q2.block _ (lt_of_block hblk)).trans hblk, f0.trans (Fr.of_below q2)⟩
        clear hblk hpa hla
        go_enter Try.func124, Try.ntmps124
        go_wp2_with (fail)
        generalize hB : w.heap.size = B at *
        generalize w.alloc (.cells #[.int .i64 k, .int .i64 (i : Int), .int .i64 v, .int .i64 f] 78) = W at *
        refine hrs.mono ?_
        rintro e W1 ⟨rfl, h1, hblk, f1⟩
        clear hrs h0 f0 a1 a2 a3
        have a1 : W1.cell? ⟨B, 1, none⟩ = some (.int .i64 (i : Int)) := by rw [cell_of hblk]; rfl
        have a2 : W1.cell? ⟨B, 2, none⟩ = some (.int .i64 v) := by rw [cell_of hblk]; rfl
        have a3 : W1.cell? ⟨B, 3, none⟩ = some (.int .i64 f) := by rw [cell_of hblk]; rfl
        have c0 := h1.c0
        have c1 := h1.c1
        have hc1 := f1.cell hc id
        skip
        have hst := (c_Set W1.drew L p.mem m' h1.rep.drew (p.root i) f v e1 hg).mono (R' := fun e w' => e = .returned (.int .i64 e1) ∧ ∃ L', PRep w' pb L' (.slice (some ⟨g, 0, none⟩) p.roots.length cap) ⟨m', p.roots⟩ ∧
            PEv pb L L' (.slice (some ⟨g, 0, none⟩) p.roots.length cap) (.slice (some ⟨g, 0, none⟩) p.roots.length cap) p.roots.length w w')
          fun e w' ⟨L', q1, q2, q3⟩ => ⟨q1, L', h1.drew.ev q2 q3, (PEv.of_fr (f1.drew.mono fun _ _ q => q.elim)).trans (PEv.of_ev q3)⟩
        have hH := Lib.hid h
        clear h h1 f1 hc hg hblk
        go_wp2_with (fail)
        refine wp_region_still_tail 16 (by kernel_rfl) (by kernel_rfl) ?_
        show wpStill _ _ (W1.drew) (fun a' => wpList _ _ _ _ a' (W1.drew)) _ _
        simp only [List.take_succ_cons, List.take_zero, List.drop_succ_cons, List.drop_zero]
        repeat still_step
        refine wpStill_nil ?_
        clear c0 c1 a1 a2 a3 hc1
        generalize W1.drew = W2 at *
        go_wp2_with (fail)
        refine hst.mono ?_
        rintro e w1 ⟨rfl, L', h2, e2⟩
        go_wp2
        go_ret
        exact ⟨rfl, L', h2, e2⟩
    · rw [if_pos he] at hl
      simp only [Option.some.injEq, Prod.mk.injEq] at hl
      obtain ⟨rfl, rfl⟩ := hl
      have he' : ((e : Int) != 0) = true := by simpa using he
      clear hrf hblk hpa hla
      replace hrs := hrs.mono (R' := fun e' w' => e' = .returned (.int .i64 e) ∧ PRep w' pb L rv p ∧ Fr (fun _ => False) w w') fun e w' ⟨q1, q2⟩ => ⟨q1, h0.below q2, f0.trans (Fr.of_below q2)⟩
      go_enter Try.func124, Try.ntmps124
      go_wp2_with (fail)
      refine hrs.mono ?_
      rintro e W1 ⟨rfl, h1, f1⟩
      clear hrs h0 f0 a1 a2 a3
      go_wp2
      go_ret
      exact ⟨rfl, L, h1, PEv.of_fr (f1.mono fun _ _ q => q.elim)⟩

end Go.Proofs.Ytnedmmopkhmejaa
