/- Walk: act. -/
import Derived.Test.YtnedmmopkhmejaaKHA5
set_option linter.unusedVariables false
set_option linter.unusedSimpArgs false
namespace Go.Proofs.Ytnedmmopkhmejaa
open Go.RowKit Go.Proofs.Hp
attribute [local go_sem] Oper.semAt_some

set_option maxRecDepth 100000 in
set_option maxHeartbeats 4000000 in
theorem c_pact1 (w : World) (pb : Nat) (L : ML) (rv : Value) (p p' : Pl) (h : PRep w pb L rv p) (k f : Nat) (ra rb : Bool) (hk1 : 1 ≤ k) (hk9 : k ≤ 9) (a b c er : Int)
    (hd0 : deedCells[k * 3]? = some (fnV f)) (hd1 : deedCells[k * 3 + 1]? = some (.bool ra)) (hd2 : deedCells[k * 3 + 2]? = some (.bool rb)) (hcf : ∀ args w, (callFunc f args).run Try.prog w = .ok (.enter f args) w)
    (hdo : (ra = true → 0 ≤ a ∧ a < (p.roots.length : Int)) → (rb = true → 0 ≤ b ∧ b < (p.roots.length : Int)) → ∀ W, PRep W pb L rv p → Calls Try.prog f #[.pointer (some ⟨pb, 0, none⟩), .agg #[.int .i64 (k : Int), .int .i64 a, .int .i64 b, .int .i64 c]] W
      fun e w' => e = .returned (.int .i64 er) ∧ ∃ L' rv', PRep w' pb L' rv' p' ∧ PEv pb L L' rv rv' p.roots.length W w')
    (hbad : ¬ ((ra = true → 0 ≤ a ∧ a < (p.roots.length : Int)) ∧ (rb = true → 0 ≤ b ∧ b < (p.roots.length : Int))) → er = 1 ∧ p' = p) :
    Calls Try.prog 79 #[.pointer (some ⟨pb, 0, none⟩), .agg #[.int .i64 (k : Int), .int .i64 a, .int .i64 b, .int .i64 c]] w
      fun e w' => e = .returned (.int .i64 er) ∧ ∃ L' rv', PRep w' pb L' rv' p' ∧ PEv pb L L' rv rv' p.roots.length w w' := by
  have hk : ((k : Nat) : Int) = (k : Int) := rfl
  have h0 := h.alloc (.cells #[.int .i64 (k : Int), .int .i64 a, .int .i64 b, .int .i64 c] 78)
  have f0 : Fr (fun _ => False) w (w.alloc (.cells #[.int .i64 (k : Int), .int .i64 a, .int .i64 b, .int .i64 c] 78)) := (Fr.refl _ w).alloc _
  have a1 : (w.alloc (.cells #[.int .i64 (k : Int), .int .i64 a, .int .i64 b, .int .i64 c] 78)).cell? ⟨w.heap.size, 1, none⟩ = some (.int .i64 a) := by rw [cell_of (al_same _ _)]; rfl
  have a2 : (w.alloc (.cells #[.int .i64 (k : Int), .int .i64 a, .int .i64 b, .int .i64 c] 78)).cell? ⟨w.heap.size, 2, none⟩ = some (.int .i64 b) := by rw [cell_of (al_same _ _)]; rfl
  have a3 : (w.alloc (.cells #[.int .i64 (k : Int), .int .i64 a, .int .i64 b, .int .i64 c] 78)).cell? ⟨w.heap.size, 3, none⟩ = some (.int .i64 c) := by rw [cell_of (al_same _ _)]; rfl
  have hblk : (w.alloc (.cells #[.int .i64 (k : Int), .int .i64 a, .int .i64 b, .int .i64 c] 78)).heap[w.heap.size]? = some (.cells #[.int .i64 (k : Int), .int .i64 a, .int .i64 b, .int .i64 c] 78) := al_same _ _
  have hpa : w.heap.size ≠ pb := by have := lt_of_block h.blk; omega
  have hla : ∀ k ∈ L.fp, k ≠ w.heap.size := fun k hk e => by have := h.rep.lt hk; omega
  have a0 : (w.alloc (.cells #[.int .i64 (k : Int), .int .i64 a, .int .i64 b, .int .i64 c] 78)).cell? ⟨w.heap.size, 0, none⟩ = some (.int .i64 (k : Int)) := by rw [cell_of (al_same _ _)]; rfl
  have hdoH := Lib.hid hdo
  have hbadH := Lib.hid hbad
  clear hdo hbad hpa hla h
  go_enter Try.func79, Try.ntmps79
  go_wp2_with (fail)
  generalize hB : w.heap.size = B at *
  generalize w.alloc (.cells #[.int .i64 (k : Int), .int .i64 a, .int .i64 b, .int .i64 c] 78) = W at *
  refine (c_deeds W).mono ?_
  rintro e W1 ⟨rfl, hW1⟩
  have hb1 : Below W.heap.size W W1 := by rw [hW1]; exact (Below.refl _ _).alloc (Nat.le_refl _) _
  clear hW1
  have hx : (W1.alloc (.cells deedZero 172)).setRow W1.heap.size deedCells = W1.alloc (.cells deedCells 172) := World.setRow_alloc_new _ _ _ _
  have h2 := (h0.below hb1).alloc (.cells deedCells 172)
  have fW := (f0.trans (Fr.of_below hb1)).alloc (.cells deedCells 172)
  have hlt1 := lt_of_block hblk
  have hblk2 : (W1.alloc (.cells deedCells 172)).heap[B]? = some (.cells #[.int .i64 (k : Int), .int .i64 a, .int .i64 b, .int .i64 c] 78) := (al_old _ _ _ (Nat.lt_of_lt_of_le hlt1 hb1.size)).trans ((hb1.block _ hlt1).trans hblk)
  have hdb : (W1.alloc (.cells deedCells 172)).heap[W1.heap.size]? = some (.cells deedCells 172) := al_same _ _
  generalize W1.alloc (.cells deedCells 172) = W2 at hx h2 fW hblk2 hdb
  have b0 : W2.cell? ⟨B, 0, none⟩ = some (.int .i64 (k : Int)) := by rw [cell_of hblk2]; rfl
  have b1 : W2.cell? ⟨B, 1, none⟩ = some (.int .i64 a) := by rw [cell_of hblk2]; rfl
  have b2 : W2.cell? ⟨B, 2, none⟩ = some (.int .i64 b) := by rw [cell_of hblk2]; rfl
  have b3 : W2.cell? ⟨B, 3, none⟩ = some (.int .i64 c) := by rw [cell_of hblk2]; rfl
  have d0 : W2.cell? ⟨W1.heap.size, k * 3, none⟩ = some (fnV f) := by rw [cell_of hdb]; exact hd0
  have d1 : W2.cell? ⟨W1.heap.size, k * 3 + 1, none⟩ = some (.bool ra) := by rw [cell_of hdb]; exact hd1
  have d2 : W2.cell? ⟨W1.heap.size, k * 3 + 2, none⟩ = some (.bool rb) := by rw [cell_of hdb]; exact hd2
  clear hd0 hd1 hd2
  have h3 := h2.alloc (.cells #[fnV f, .bool ra, .bool rb] 171)
  have f3 := fW.alloc (.cells #[fnV f, .bool ra, .bool rb] 171)
  have al := Fr.alloc (Fr.refl (fun _ => False) W2) (.cells #[fnV f, .bool ra, .bool rb] 171)
  have g0 := al.cell b0 id
  have g1 := al.cell b1 id
  have g2 := al.cell b2 id
  have g3 := al.cell b3 id
  have hdd := al_same W2 (.cells #[fnV f, .bool ra, .bool rb] 171)
  have u0 : (W2.alloc (.cells #[fnV f, .bool ra, .bool rb] 171)).cell? ⟨W2.heap.size, 0, none⟩ = some (fnV f) := by rw [cell_of hdd]; rfl
  have u1 : (W2.alloc (.cells #[fnV f, .bool ra, .bool rb] 171)).cell? ⟨W2.heap.size, 1, none⟩ = some (.bool ra) := by rw [cell_of hdd]; rfl
  have u2 : (W2.alloc (.cells #[fnV f, .bool ra, .bool rb] 171)).cell? ⟨W2.heap.size, 2, none⟩ = some (.bool rb) := by rw [cell_of hdd]; rfl
  have hxH := Lib.hid hx
  have hk1' : ¬ (k : Int) < 1 := by omega
  have hk9' : ¬ (9 : Int) < (k : Int) := by omega
  have hk10 : (k : Int) < 10 := by omega
  obtain ⟨rp, rcap, hrv, -⟩ := h3.out
  subst hrv
  have c1 := h3.c1
  clear hx a0 a1 a2 a3 h0 f0 hblk hb1 hlt1 hk h2 hblk2 hdb fW al hdd
  unfold fnV at *
  generalize hW3 : W2.alloc (.cells #[.func (.func f) #[] #[], .bool ra, .bool rb] 171) = W3 at h3 f3 g0 g1 g2 g3 u0 u1 u2 c1
  have hW3H := Lib.hid hW3
  clear hW3
  have hHH : Hid (PRep W3 pb L (.slice rp p.roots.length rcap) p ∧ Fr (fun _ => False) w W3) := Lib.hid ⟨h3, f3⟩
  clear h3 f3
  go_wp2_with (first
    | (refine wpList_store_row rfl 172 (.tmp 5) (.tmp 7) rfl W1.heap.size deedCells rfl rfl 172 deedZero (heap_alloc_last _ _) (by kernel_rfl) rfl (by kernel_rfl) ?_; change wpList _ _ _ _ _ ((W1.alloc (.cells deedZero 172)).setRow W1.heap.size deedCells); rw [hxH.out]))
  rw [hW3H.out]
  generalize W2.heap.size = D at *
  clear b0 b1 b2 b3 d0 d1 d2 hk1' hk9' hk10 hxH
  have hcfH := Lib.hid hcf
  clear hcf
  cases ra with
  | false =>
    cases rb with
    | false =>
      go_quiet (fail)
      have hc := hdoH.out (by simp <;> omega) (by simp <;> omega) (W3.drewN nq) (hHH.out.1.drewN nq)
      have hcf := hcfH.out
      go_wp2_with (fail)
      refine hc.mono ?_
      rintro e w1 ⟨rfl, L', rv', h4, e4⟩
      clear hc hcf g0 g1 g2 g3 u0 u1 u2 c1
      go_wp2
      go_ret
      exact ⟨rfl, L', rv', h4, (PEv.of_fr ((hHH.out.2.drewN nq).mono fun _ _ q => q.elim)).trans e4⟩
    | true =>
      by_cases hb0 : b < 0
      · have hb0' : decide (b < 0) = true := decide_eq_true hb0
        obtain ⟨rfl, rfl⟩ := hbadH.out (by simp <;> omega)
        go_quiet (fail)
        go_wp2
        go_ret
        exact ⟨rfl, L, _, hHH.out.1.drewN _, PEv.of_fr ((hHH.out.2.drewN _).mono fun _ _ q => q.elim)⟩
      · have hb0' : decide (b < 0) = false := decide_eq_false hb0
        by_cases hbn : (p.roots.length : Int) ≤ b
        · have hbn' : decide ((p.roots.length : Int) ≤ b) = true := decide_eq_true hbn
          obtain ⟨rfl, rfl⟩ := hbadH.out (by simp <;> omega)
          go_quiet (fail)
          go_wp2
          go_ret
          exact ⟨rfl, L, _, hHH.out.1.drewN _, PEv.of_fr ((hHH.out.2.drewN _).mono fun _ _ q => q.elim)⟩
        · have hbn' : decide ((p.roots.length : Int) ≤ b) = false := decide_eq_false hbn
          go_quiet (fail)
          have hc := hdoH.out (by simp <;> omega) (by simp <;> omega) (W3.drewN nq) (hHH.out.1.drewN nq)
          have hcf := hcfH.out
          go_wp2_with (fail)
          refine hc.mono ?_
          rintro e w1 ⟨rfl, L', rv', h4, e4⟩
          clear hc hcf g0 g1 g2 g3 u0 u1 u2 c1
          go_wp2
          go_ret
          exact ⟨rfl, L', rv', h4, (PEv.of_fr ((hHH.out.2.drewN nq).mono fun _ _ q => q.elim)).trans e4⟩
  | true =>
    by_cases ha0 : a < 0
    · have ha0' : decide (a < 0) = true := decide_eq_true ha0
      obtain ⟨rfl, rfl⟩ := hbadH.out (by simp <;> omega)
      go_quiet (fail)
      go_wp2
      go_ret
      exact ⟨rfl, L, _, hHH.out.1.drewN _, PEv.of_fr ((hHH.out.2.drewN _).mono fun _ _ q => q.elim)⟩
    · have ha0' : decide (a < 0) = false := decide_eq_false ha0
      by_cases han : (p.roots.length : Int) ≤ a
      · have han' : decide ((p.roots.length : Int) ≤ a) = true := decide_eq_true han
        obtain ⟨rfl, rfl⟩ := hbadH.out (by simp <;> omega)
        go_quiet (fail)
        go_wp2
        go_ret
        exact ⟨rfl, L, _, hHH.out.1.drewN _, PEv.of_fr ((hHH.out.2.drewN _).mono fun _ _ q => q.elim)⟩
      · have han' : decide ((p.roots.length : Int) ≤ a) = false := decide_eq_false han
        cases rb with
        | false =>
          go_quiet (fail)
          have hc := hdoH.out (by simp <;> omega) (by simp <;> omega) (W3.drewN nq) (hHH.out.1.drewN nq)
          have hcf := hcfH.out
          go_wp2_with (fail)
          refine hc.mono ?_
          rintro e w1 ⟨rfl, L', rv', h4, e4⟩
          clear hc hcf g0 g1 g2 g3 u0 u1 u2 c1
          go_wp2
          go_ret
          exact ⟨rfl, L', rv', h4, (PEv.of_fr ((hHH.out.2.drewN nq).mono fun _ _ q => q.elim)).trans e4⟩
        | true =>
          by_cases hb0 : b < 0
          · have hb0' : decide (b < 0) = true := decide_eq_true hb0
            obtain ⟨rfl, rfl⟩ := hbadH.out (by simp <;> omega)
            go_quiet (fail)
            go_wp2
            go_ret
            exact ⟨rfl, L, _, hHH.out.1.drewN _, PEv.of_fr ((hHH.out.2.drewN _).mono fun _ _ q => q.elim)⟩
          · have hb0' : decide (b < 0) = false := decide_eq_false hb0
            by_cases hbn : (p.roots.length : Int) ≤ b
            · have hbn' : decide ((p.roots.length : Int) ≤ b) = true := decide_eq_true hbn
              obtain ⟨rfl, rfl⟩ := hbadH.out (by simp <;> omega)
              go_quiet (fail)
              go_wp2
              go_ret
              exact ⟨rfl, L, _, hHH.out.1.drewN _, PEv.of_fr ((hHH.out.2.drewN _).mono fun _ _ q => q.elim)⟩
            · have hbn' : decide ((p.roots.length : Int) ≤ b) = false := decide_eq_false hbn
              go_quiet (fail)
              have hc := hdoH.out (by simp <;> omega) (by simp <;> omega) (W3.drewN nq) (hHH.out.1.drewN nq)
              have hcf := hcfH.out
              go_wp2_with (fail)
              refine hc.mono ?_
              rintro e w1 ⟨rfl, L', rv', h4, e4⟩
              clear hc hcf g0 g1 g2 g3 u0 u1 u2 c1
              go_wp2
              go_ret
              exact ⟨rfl, L', rv', h4, (PEv.of_fr ((hHH.out.2.drewN nq).mono fun _ _ q => q.elim)).trans e4⟩
end Go.Proofs.Ytnedmmopkhmejaa
